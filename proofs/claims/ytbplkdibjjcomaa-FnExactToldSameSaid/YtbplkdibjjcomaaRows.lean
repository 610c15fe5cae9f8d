/-
  No cell of these rows narrows 'for every input' (looked for: loops, veiled, ifaces, maps, wideKeys, modest, calm, conditions, laid).
  DERIVED. THE GIVEN ROWS OF THIS SEAT. 4 by the template 'for every input the law returns true; each argument reads behind the call as it read before'; 0 by the template 'total and deterministic' (their statements: YtbplkdibjjcomaaTotals.lean).
  GIVEN WITH THE SEED: the statements are not yours to turn. If you find one false, say at which input.
  Laid BY PROGRAM, IN A SANDBOX (cutbox-rows.mjs): the forced cells as the released guide's own fill.sh prints them over the translation eaf081fffaaf4d32… (all of the seat's roots in one cut). By AI agents, Wed Nov 11 2026. No macro, syntax, notation, axiom, sorry.
-/
import Derived.Test.YtbplkdibjjcomaaChecked
import GoSem.Claim
import GoSem.ClaimJoined
import GoSem.ClaimMapViews
import Derived.JoinedTies
import Derived.KernelRfl
namespace Go.Proofs.Ytbplkdibjjcomaa
/- THE CELL 'sum', in the pinned program and in every row, IS THE sha256 OF THE DUMP (.gsa) THAT YtbplkdibjjcomaaProg.lean LOADS. Nothing in Lean hashes anything: it is a label: what it is worth is what the hold of that sum in a sandbox is worth. -/
noncomputable def Try.pinned : Pinned := { name := "ytbplkdibjjcomaa", sum := "eaf081fffaaf4d32013ee419960862f35c55d9095bb4868e7a45b20f87219822", checked := Try.checked }
namespace Rows
def none {H : Type} : Left H := { results := [], args := [] }

/-- 'laws.FnExactPersonOk': WHATEVER THE INPUT: true; the input reads as it did. -/
def fnExactPersonOkSpec : ChangeSpec := { name := "fnExactPersonOk", fn := fun _ => fun
  | [d] => { results := [.lit (.bool true)], args := [d] }
  | _ => none }
def fnExactPersonOkRow : OpenClaim := { program := "ytbplkdibjjcomaa", sum := "eaf081fffaaf4d32013ee419960862f35c55d9095bb4868e7a45b20f87219822", func := "loop.example/hagioscope/laws.FnExactPersonOk", spec := "fnExactPersonOk", apart := false }
def FnExactPersonOkSaid : Prop := fnExactPersonOkRow.holds Try.pinned (OpenSpec.ofChange fnExactPersonOkSpec)

/-- ITS FALSE NEIGHBOUR: 'it returns false'. Refute it at one input. -/
def fnExactPersonOkWrong : ChangeSpec := { name := "fnExactPersonOk", fn := fun _ => fun
  | [d] => { results := [.lit (.bool false)], args := [d] }
  | _ => none }
def FnExactPersonOkWrongFalsely : Prop := fnExactPersonOkRow.holds Try.pinned (OpenSpec.ofChange fnExactPersonOkWrong)

/-- 'laws.FnExactQueryOk': WHATEVER THE INPUT: true; the input reads as it did. -/
def fnExactQueryOkSpec : ChangeSpec := { name := "fnExactQueryOk", fn := fun _ => fun
  | [d] => { results := [.lit (.bool true)], args := [d] }
  | _ => none }
def fnExactQueryOkRow : OpenClaim := { program := "ytbplkdibjjcomaa", sum := "eaf081fffaaf4d32013ee419960862f35c55d9095bb4868e7a45b20f87219822", func := "loop.example/hagioscope/laws.FnExactQueryOk", spec := "fnExactQueryOk", apart := false }
def FnExactQueryOkSaid : Prop := fnExactQueryOkRow.holds Try.pinned (OpenSpec.ofChange fnExactQueryOkSpec)

/-- ITS FALSE NEIGHBOUR: 'it returns false'. Refute it at one input. -/
def fnExactQueryOkWrong : ChangeSpec := { name := "fnExactQueryOk", fn := fun _ => fun
  | [d] => { results := [.lit (.bool false)], args := [d] }
  | _ => none }
def FnExactQueryOkWrongFalsely : Prop := fnExactQueryOkRow.holds Try.pinned (OpenSpec.ofChange fnExactQueryOkWrong)

/-- 'laws.FnExactToldSame': WHATEVER THE INPUT: true; the input reads as it did. -/
def fnExactToldSameSpec : ChangeSpec := { name := "fnExactToldSame", fn := fun _ => fun
  | [d1, d2] => { results := [.lit (.bool true)], args := [d1, d2] }
  | _ => none }
def fnExactToldSameRow : OpenClaim := { program := "ytbplkdibjjcomaa", sum := "eaf081fffaaf4d32013ee419960862f35c55d9095bb4868e7a45b20f87219822", func := "loop.example/hagioscope/laws.FnExactToldSame", spec := "fnExactToldSame", unfollowed := true, recurses := true, apart := false }
def FnExactToldSameSaid : Prop := fnExactToldSameRow.holds Try.pinned (OpenSpec.ofChange fnExactToldSameSpec)

/-- ITS FALSE NEIGHBOUR: 'it returns false'. Refute it at one input. -/
def fnExactToldSameWrong : ChangeSpec := { name := "fnExactToldSame", fn := fun _ => fun
  | [d1, d2] => { results := [.lit (.bool false)], args := [d1, d2] }
  | _ => none }
def FnExactToldSameWrongFalsely : Prop := fnExactToldSameRow.holds Try.pinned (OpenSpec.ofChange fnExactToldSameWrong)

/-- 'laws.FnExactWorldPurge': WHATEVER THE INPUT: true; the input reads as it did. -/
def fnExactWorldPurgeSpec : ChangeSpec := { name := "fnExactWorldPurge", fn := fun _ => fun
  | [d1, d2, d3] => { results := [.lit (.bool true)], args := [d1, d2, d3] }
  | _ => none }
def fnExactWorldPurgeRow : OpenClaim := { program := "ytbplkdibjjcomaa", sum := "eaf081fffaaf4d32013ee419960862f35c55d9095bb4868e7a45b20f87219822", func := "loop.example/hagioscope/laws.FnExactWorldPurge", spec := "fnExactWorldPurge", apart := false }
def FnExactWorldPurgeSaid : Prop := fnExactWorldPurgeRow.holds Try.pinned (OpenSpec.ofChange fnExactWorldPurgeSpec)

/-- ITS FALSE NEIGHBOUR: 'it returns false'. Refute it at one input. -/
def fnExactWorldPurgeWrong : ChangeSpec := { name := "fnExactWorldPurge", fn := fun _ => fun
  | [d1, d2, d3] => { results := [.lit (.bool false)], args := [d1, d2, d3] }
  | _ => none }
def FnExactWorldPurgeWrongFalsely : Prop := fnExactWorldPurgeRow.holds Try.pinned (OpenSpec.ofChange fnExactWorldPurgeWrong)

/- THE SECOND FORM. 'bulk': how many values and letters a reading holds, each counted each time it is reached (what is shared counts as often as it is met; a slice's spare places count too). A statement '..UptoSaid' is the law's where the arguments, and the package variables that the reading takes, are together of bulk at most 1048576: NARROWER than '..Said'. Prove '..Said' where nothing that the law and all that it calls make is longer than what came in: it says more and counts as full. Else prove '..UptoSaid'. A law counts once. -/
mutual
def uptoBulk {H : Type} : DataW H → Nat
  | .lit (.string bytes) => bytes.length + 1
  | .lit _ => 1
  | .nil => 1
  | .ptr d => uptoBulk d + 1
  | .slice elems spare => uptoBulkAll elems + uptoBulkAll spare + 1
  | .agg parts => uptoBulkAll parts + 1
  | .iface _ d => uptoBulk d + 1
  | .map entries => uptoBulkEntries entries + 1
  | .held _ => 1
def uptoBulkAll {H : Type} : List (DataW H) → Nat
  | [] => 0
  | d :: r => uptoBulk d + uptoBulkAll r
def uptoBulkEntries {H : Type} : List (Lit × DataW H) → Nat
  | [] => 0
  | x :: r => uptoBulkEntry x + uptoBulkEntries r
def uptoBulkEntry {H : Type} : Lit × DataW H → Nat
  | (.string bytes, d) => bytes.length + uptoBulk d + 1
  | (_, d) => uptoBulk d + 1
 end
def uptoSmall : (H : Type) → List (DataW H) → Bool := fun _ ds => decide (uptoBulkAll ds ≤ 1048576)
def OpenSpec.upto (s : _root_.Go.ChangeSpec) : _root_.Go.OpenSpec := { _root_.Go.OpenSpec.ofChange s with cond := some uptoSmall }

/-- 'laws.FnExactPersonOk', WHERE WHAT IT READS IS OF BULK AT MOST 1048576: true; the input reads as it did. -/
def fnExactPersonOkUptoRow : OpenClaim := { program := "ytbplkdibjjcomaa", sum := "eaf081fffaaf4d32013ee419960862f35c55d9095bb4868e7a45b20f87219822", func := "loop.example/hagioscope/laws.FnExactPersonOk", spec := "fnExactPersonOk", apart := false, narrowed := true }
def FnExactPersonOkUptoSaid : Prop := fnExactPersonOkUptoRow.holds Try.pinned (OpenSpec.upto fnExactPersonOkSpec)

/-- 'laws.FnExactQueryOk', WHERE WHAT IT READS IS OF BULK AT MOST 1048576: true; the input reads as it did. -/
def fnExactQueryOkUptoRow : OpenClaim := { program := "ytbplkdibjjcomaa", sum := "eaf081fffaaf4d32013ee419960862f35c55d9095bb4868e7a45b20f87219822", func := "loop.example/hagioscope/laws.FnExactQueryOk", spec := "fnExactQueryOk", apart := false, narrowed := true }
def FnExactQueryOkUptoSaid : Prop := fnExactQueryOkUptoRow.holds Try.pinned (OpenSpec.upto fnExactQueryOkSpec)

/-- 'laws.FnExactToldSame', WHERE WHAT IT READS IS OF BULK AT MOST 1048576: true; the input reads as it did. -/
def fnExactToldSameUptoRow : OpenClaim := { program := "ytbplkdibjjcomaa", sum := "eaf081fffaaf4d32013ee419960862f35c55d9095bb4868e7a45b20f87219822", func := "loop.example/hagioscope/laws.FnExactToldSame", spec := "fnExactToldSame", unfollowed := true, recurses := true, apart := false, narrowed := true }
def FnExactToldSameUptoSaid : Prop := fnExactToldSameUptoRow.holds Try.pinned (OpenSpec.upto fnExactToldSameSpec)

/-- 'laws.FnExactWorldPurge', WHERE WHAT IT READS IS OF BULK AT MOST 1048576: true; the input reads as it did. -/
def fnExactWorldPurgeUptoRow : OpenClaim := { program := "ytbplkdibjjcomaa", sum := "eaf081fffaaf4d32013ee419960862f35c55d9095bb4868e7a45b20f87219822", func := "loop.example/hagioscope/laws.FnExactWorldPurge", spec := "fnExactWorldPurge", apart := false, narrowed := true }
def FnExactWorldPurgeUptoSaid : Prop := fnExactWorldPurgeUptoRow.holds Try.pinned (OpenSpec.upto fnExactWorldPurgeSpec)

end Rows
end Go.Proofs.Ytbplkdibjjcomaa
