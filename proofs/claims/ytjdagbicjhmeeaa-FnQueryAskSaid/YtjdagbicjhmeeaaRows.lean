/-
  No cell of these rows narrows 'for every input' (looked for: loops, veiled, ifaces, maps, wideKeys, modest, calm, conditions, laid).
  DERIVED. THE GIVEN ROWS OF THIS SEAT. 4 by the template 'for every input the law returns true; each argument reads behind the call as it read before'; 0 by the template 'total and deterministic' (their statements: YtjdagbicjhmeeaaTotals.lean).
  GIVEN WITH THE SEED: the statements are not yours to turn. If you find one false, say at which input.
  Laid BY PROGRAM, IN A SANDBOX (cutbox-rows.mjs): the forced cells as the released guide's own fill.sh prints them over the translation 2eab2f51c2c02454… (all of the seat's roots in one cut). By AI agents, Wed Nov 11 2026. No macro, syntax, notation, axiom, sorry.
-/
import Derived.Test.YtjdagbicjhmeeaaChecked
import GoSem.Claim
import GoSem.ClaimJoined
import GoSem.ClaimMapViews
import Derived.JoinedTies
import Derived.KernelRfl
namespace Go.Proofs.Ytjdagbicjhmeeaa
/- THE CELL 'sum', in the pinned program and in every row, IS THE sha256 OF THE DUMP (.gsa) THAT YtjdagbicjhmeeaaProg.lean LOADS. Nothing in Lean hashes anything: it is a label: what it is worth is what the hold of that sum in a sandbox is worth. -/
noncomputable def Try.pinned : Pinned := { name := "ytjdagbicjhmeeaa", sum := "2eab2f51c2c02454c75401607ce1ad5051b4e210fdb48a038420367a4fa12796", checked := Try.checked }
namespace Rows
def none {H : Type} : Left H := { results := [], args := [] }

/-- 'laws.FnWorldPurge': WHATEVER THE INPUT: true; the input reads as it did. -/
def fnWorldPurgeSpec : ChangeSpec := { name := "fnWorldPurge", fn := fun _ => fun
  | [d] => { results := [.lit (.bool true)], args := [d] }
  | _ => none }
def fnWorldPurgeRow : OpenClaim := { program := "ytjdagbicjhmeeaa", sum := "2eab2f51c2c02454c75401607ce1ad5051b4e210fdb48a038420367a4fa12796", func := "loop.example/hagioscope/laws.FnWorldPurge", spec := "fnWorldPurge", apart := false }
def FnWorldPurgeSaid : Prop := fnWorldPurgeRow.holds Try.pinned (OpenSpec.ofChange fnWorldPurgeSpec)

/-- ITS FALSE NEIGHBOUR: 'it returns false'. Refute it at one input. -/
def fnWorldPurgeWrong : ChangeSpec := { name := "fnWorldPurge", fn := fun _ => fun
  | [d] => { results := [.lit (.bool false)], args := [d] }
  | _ => none }
def FnWorldPurgeWrongFalsely : Prop := fnWorldPurgeRow.holds Try.pinned (OpenSpec.ofChange fnWorldPurgeWrong)

/-- 'laws.FnWorldChain': WHATEVER THE INPUT: true; the input reads as it did. -/
def fnWorldChainSpec : ChangeSpec := { name := "fnWorldChain", fn := fun _ => fun
  | [d1, d2] => { results := [.lit (.bool true)], args := [d1, d2] }
  | _ => none }
def fnWorldChainRow : OpenClaim := { program := "ytjdagbicjhmeeaa", sum := "2eab2f51c2c02454c75401607ce1ad5051b4e210fdb48a038420367a4fa12796", func := "loop.example/hagioscope/laws.FnWorldChain", spec := "fnWorldChain", apart := false }
def FnWorldChainSaid : Prop := fnWorldChainRow.holds Try.pinned (OpenSpec.ofChange fnWorldChainSpec)

/-- ITS FALSE NEIGHBOUR: 'it returns false'. Refute it at one input. -/
def fnWorldChainWrong : ChangeSpec := { name := "fnWorldChain", fn := fun _ => fun
  | [d1, d2] => { results := [.lit (.bool false)], args := [d1, d2] }
  | _ => none }
def FnWorldChainWrongFalsely : Prop := fnWorldChainRow.holds Try.pinned (OpenSpec.ofChange fnWorldChainWrong)

/-- 'laws.FnExactQueryAsk': WHATEVER THE INPUT: true; the input reads as it did. -/
def fnExactQueryAskSpec : ChangeSpec := { name := "fnExactQueryAsk", fn := fun _ => fun
  | [d1, d2] => { results := [.lit (.bool true)], args := [d1, d2] }
  | _ => none }
def fnExactQueryAskRow : OpenClaim := { program := "ytjdagbicjhmeeaa", sum := "2eab2f51c2c02454c75401607ce1ad5051b4e210fdb48a038420367a4fa12796", func := "loop.example/hagioscope/laws.FnExactQueryAsk", spec := "fnExactQueryAsk", unfollowed := true, recurses := true, apart := false }
def FnExactQueryAskSaid : Prop := fnExactQueryAskRow.holds Try.pinned (OpenSpec.ofChange fnExactQueryAskSpec)

/-- ITS FALSE NEIGHBOUR: 'it returns false'. Refute it at one input. -/
def fnExactQueryAskWrong : ChangeSpec := { name := "fnExactQueryAsk", fn := fun _ => fun
  | [d1, d2] => { results := [.lit (.bool false)], args := [d1, d2] }
  | _ => none }
def FnExactQueryAskWrongFalsely : Prop := fnExactQueryAskRow.holds Try.pinned (OpenSpec.ofChange fnExactQueryAskWrong)

/-- 'laws.FnQueryAsk': WHATEVER THE INPUT: true; the input reads as it did. -/
def fnQueryAskSpec : ChangeSpec := { name := "fnQueryAsk", fn := fun _ => fun
  | [d] => { results := [.lit (.bool true)], args := [d] }
  | _ => none }
def fnQueryAskRow : OpenClaim := { program := "ytjdagbicjhmeeaa", sum := "2eab2f51c2c02454c75401607ce1ad5051b4e210fdb48a038420367a4fa12796", func := "loop.example/hagioscope/laws.FnQueryAsk", spec := "fnQueryAsk", unfollowed := true, recurses := true, apart := false }
def FnQueryAskSaid : Prop := fnQueryAskRow.holds Try.pinned (OpenSpec.ofChange fnQueryAskSpec)

/-- ITS FALSE NEIGHBOUR: 'it returns false'. Refute it at one input. -/
def fnQueryAskWrong : ChangeSpec := { name := "fnQueryAsk", fn := fun _ => fun
  | [d] => { results := [.lit (.bool false)], args := [d] }
  | _ => none }
def FnQueryAskWrongFalsely : Prop := fnQueryAskRow.holds Try.pinned (OpenSpec.ofChange fnQueryAskWrong)

/- THE SECOND FORM. 'bulk': how many values and letters a reading holds, each counted each time it is reached (what is shared counts as often as it is met; a slice's spare places count too). A statement '..UptoSaid' is the law's where the arguments, and the package variables that the reading takes, are together of bulk at most 1048576: NARROWER than '..Said'. Prove '..Said' where nothing that the law and all that it calls make is longer than what came in: it says more and counts as full. Else prove '..UptoSaid'. A law counts once. -/
mutual
def uptoBulk {H : Type} : DataW H → Nat
  | .lit (.string bytes) => bytes.length + 1
  | .lit _ => 1
  | .nil => 1
  | .ptr d => uptoBulk d + 1
  | .slice elems spare => uptoBulkAll elems + uptoBulkAll spare + 1
  | .agg parts => uptoBulkAll parts + 1
  | .iface _ d => uptoBulk d + 1
  | .map entries => uptoBulkEntries entries + 1
  | .held _ => 1
def uptoBulkAll {H : Type} : List (DataW H) → Nat
  | [] => 0
  | d :: r => uptoBulk d + uptoBulkAll r
def uptoBulkEntries {H : Type} : List (Lit × DataW H) → Nat
  | [] => 0
  | x :: r => uptoBulkEntry x + uptoBulkEntries r
def uptoBulkEntry {H : Type} : Lit × DataW H → Nat
  | (.string bytes, d) => bytes.length + uptoBulk d + 1
  | (_, d) => uptoBulk d + 1
 end
def uptoSmall : (H : Type) → List (DataW H) → Bool := fun _ ds => decide (uptoBulkAll ds ≤ 1048576)
def OpenSpec.upto (s : _root_.Go.ChangeSpec) : _root_.Go.OpenSpec := { _root_.Go.OpenSpec.ofChange s with cond := some uptoSmall }

/-- 'laws.FnWorldPurge', WHERE WHAT IT READS IS OF BULK AT MOST 1048576: true; the input reads as it did. -/
def fnWorldPurgeUptoRow : OpenClaim := { program := "ytjdagbicjhmeeaa", sum := "2eab2f51c2c02454c75401607ce1ad5051b4e210fdb48a038420367a4fa12796", func := "loop.example/hagioscope/laws.FnWorldPurge", spec := "fnWorldPurge", apart := false, narrowed := true }
def FnWorldPurgeUptoSaid : Prop := fnWorldPurgeUptoRow.holds Try.pinned (OpenSpec.upto fnWorldPurgeSpec)

/-- 'laws.FnWorldChain', WHERE WHAT IT READS IS OF BULK AT MOST 1048576: true; the input reads as it did. -/
def fnWorldChainUptoRow : OpenClaim := { program := "ytjdagbicjhmeeaa", sum := "2eab2f51c2c02454c75401607ce1ad5051b4e210fdb48a038420367a4fa12796", func := "loop.example/hagioscope/laws.FnWorldChain", spec := "fnWorldChain", apart := false, narrowed := true }
def FnWorldChainUptoSaid : Prop := fnWorldChainUptoRow.holds Try.pinned (OpenSpec.upto fnWorldChainSpec)

/-- 'laws.FnExactQueryAsk', WHERE WHAT IT READS IS OF BULK AT MOST 1048576: true; the input reads as it did. -/
def fnExactQueryAskUptoRow : OpenClaim := { program := "ytjdagbicjhmeeaa", sum := "2eab2f51c2c02454c75401607ce1ad5051b4e210fdb48a038420367a4fa12796", func := "loop.example/hagioscope/laws.FnExactQueryAsk", spec := "fnExactQueryAsk", unfollowed := true, recurses := true, apart := false, narrowed := true }
def FnExactQueryAskUptoSaid : Prop := fnExactQueryAskUptoRow.holds Try.pinned (OpenSpec.upto fnExactQueryAskSpec)

/-- 'laws.FnQueryAsk', WHERE WHAT IT READS IS OF BULK AT MOST 1048576: true; the input reads as it did. -/
def fnQueryAskUptoRow : OpenClaim := { program := "ytjdagbicjhmeeaa", sum := "2eab2f51c2c02454c75401607ce1ad5051b4e210fdb48a038420367a4fa12796", func := "loop.example/hagioscope/laws.FnQueryAsk", spec := "fnQueryAsk", unfollowed := true, recurses := true, apart := false, narrowed := true }
def FnQueryAskUptoSaid : Prop := fnQueryAskUptoRow.holds Try.pinned (OpenSpec.upto fnQueryAskSpec)

end Rows
end Go.Proofs.Ytjdagbicjhmeeaa
