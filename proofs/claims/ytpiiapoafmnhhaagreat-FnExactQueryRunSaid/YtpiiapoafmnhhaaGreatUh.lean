/- Where the ways through a region that draws its order meet. -/
import Derived.Test.YtpiiapoafmnhhaaGreatUg
namespace Go.Proofs.YtpiiapoafmnhhaaGreat
namespace E
open Go Go.RowKit
set_option linter.unusedVariables false
theorem jr {P : Program} {N : Nat} {w0 : World} {K : List Ck} {F : List (Nat × En)} {Q : Exit → Act → World → Prop} {α : Type} (i : Nat) {ops : Array Oper} {dr : Bool} {y : Code} (I : α → Prop) (C : α → List (Nat × En)) (Kc : α → List Ck) (ks : List Nat) (L : List Ck) {F0 : List (Nat × En)} {K0 : List Ck} (hx : HC P N w0 (.region i ops dr) (Exit.then (fun a w => ∃ z, I z ∧ FrOk N (C z ++ F0) a ∧ KOk w0 (Kc z ++ K0) w) Q) F (L ++ K0)) (hy : ∀ z, I z → HC P N w0 y Q (C z ++ F0) (Kc z ++ K0)) (hS : Strip ks F F0 := by exact stp) (hK : Spl K L K0 := by exact sp) : HC P N w0 (.region i ops dr) (Exit.then (y.wp P Q) Q) F K := fun a w ha hw =>
  wp_mono (hx a w ha (hw.spl hK)) (fun e a w h => by
    cases e with
    | normal => obtain ⟨z, h1, h2, h3⟩ := h; exact hy z h1 a w h2 h3
    | _ => exact h)
end E
end Go.Proofs.YtpiiapoafmnhhaaGreat
