/-
  DERIVED. GIVEN WITH THE SEED: THE CARDS: each row of YtlepiheoiinpnaaDoorRows.lean that lists a variable, with what it lists TIED to the program's text (the seventh form; the later family's looks); each row that meets fmt, with fmt's text TOLD by the authors' own Lean function (tested against real Go, not proved from fmt's source: count such statements apart). THE CARD IS WHAT COUNTS. Prove the row's statement (the work); the ties are given (YtlepiheoiinpnaaDoorTie.lean); close each card by the builder's one call (the guide's Derived/Test/ToyasCard.lean, 'card_holds'). Laid BY PROGRAM, IN A SANDBOX (cutbox-door.mjs). By AI agents, Wed Nov 11 2026. No macro, syntax, notation, axiom, sorry.
-/
import Derived.Test.YtlepiheoiinpnaaDoorRows
import GoSem.ClaimSeven
namespace Go.Proofs.YtlepiheoiinpnaaDoor
namespace Rows

/-- THE TIED CARD OF 'laws.FnExactNodeText'. -/
def fnExactNodeTextCard : Claim7 := { stood := { row := fnExactNodeTextRow, standIns := [], harness := (true, "a6beecc31a4b4e755e64dd6c163e3e82889630daddc96b73c31aa8ea466aa34a"), looks := true }, kinds := [], alts := [], laidByText := true, laidKinds := [.data, .data, .data, .data], laidTests := true, laidLooks := .later }
def FnExactNodeTextCardSaid : Prop := Claim7.holds Tryd.pinned (.plain (OpenSpec.ofChange fnExactNodeTextSpec)) fnExactNodeTextCard

/-- THE TIED CARD OF 'laws.FnExactNodeRead'. -/
def fnExactNodeReadCard : Claim7 := { stood := { row := fnExactNodeReadRow, standIns := [], harness := (true, "a6beecc31a4b4e755e64dd6c163e3e82889630daddc96b73c31aa8ea466aa34a"), looks := true }, kinds := [], alts := [], laidByText := true, laidKinds := [.data, .data, .data, .sentinel, .sentinel, .data], laidTests := true, laidLooks := .later }
def FnExactNodeReadCardSaid : Prop := Claim7.holds Tryd.pinned (.plain (OpenSpec.ofChange fnExactNodeReadSpec)) fnExactNodeReadCard

/-- THE TIED CARD OF 'laws.FnNodeText'. -/
def fnNodeTextCard : Claim7 := { stood := { row := fnNodeTextRow, standIns := [], harness := (true, "a6beecc31a4b4e755e64dd6c163e3e82889630daddc96b73c31aa8ea466aa34a"), looks := true }, kinds := [], alts := [], laidByText := true, laidKinds := [.data, .data, .data, .sentinel, .sentinel, .data], laidTests := true, laidLooks := .later }
def FnNodeTextCardSaid : Prop := Claim7.holds Tryd.pinned (.plain (OpenSpec.ofChange fnNodeTextSpec)) fnNodeTextCard

/-- THE SECOND FORM's CARD OF 'laws.FnExactNodeText'. -/
def fnExactNodeTextUptoCard : Claim7 := { stood := { row := fnExactNodeTextUptoRow, standIns := [], harness := (true, "a6beecc31a4b4e755e64dd6c163e3e82889630daddc96b73c31aa8ea466aa34a"), looks := true }, kinds := [], alts := [], laidByText := true, laidKinds := [.data, .data, .data, .data], laidTests := true, laidLooks := .later }
def FnExactNodeTextUptoCardSaid : Prop := Claim7.holds Tryd.pinned (.plain (OpenSpec.upto fnExactNodeTextSpec)) fnExactNodeTextUptoCard

/-- THE SECOND FORM's CARD OF 'laws.FnExactNodeRead'. -/
def fnExactNodeReadUptoCard : Claim7 := { stood := { row := fnExactNodeReadUptoRow, standIns := [], harness := (true, "a6beecc31a4b4e755e64dd6c163e3e82889630daddc96b73c31aa8ea466aa34a"), looks := true }, kinds := [], alts := [], laidByText := true, laidKinds := [.data, .data, .data, .sentinel, .sentinel, .data], laidTests := true, laidLooks := .later }
def FnExactNodeReadUptoCardSaid : Prop := Claim7.holds Tryd.pinned (.plain (OpenSpec.upto fnExactNodeReadSpec)) fnExactNodeReadUptoCard

/-- THE SECOND FORM's CARD OF 'laws.FnNodeText'. -/
def fnNodeTextUptoCard : Claim7 := { stood := { row := fnNodeTextUptoRow, standIns := [], harness := (true, "a6beecc31a4b4e755e64dd6c163e3e82889630daddc96b73c31aa8ea466aa34a"), looks := true }, kinds := [], alts := [], laidByText := true, laidKinds := [.data, .data, .data, .sentinel, .sentinel, .data], laidTests := true, laidLooks := .later }
def FnNodeTextUptoCardSaid : Prop := Claim7.holds Tryd.pinned (.plain (OpenSpec.upto fnNodeTextSpec)) fnNodeTextUptoCard
end Rows
end Go.Proofs.YtlepiheoiinpnaaDoor
