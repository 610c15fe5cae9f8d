/- The engine, second edition, sixth part: where ways meet. -/
import Derived.Test.YtjdagbicjhmeeaaU
namespace Go.Proofs.Ytjdagbicjhmeeaa
namespace E
set_option linter.unusedSimpArgs false
set_option linter.unusedVariables false
open Go Go.RowKit
section
variable {P : Program} {N : Nat} {w0 : World} {K K' Kp : List Ck} {F F' : List (Nat × En)} {c : Bool} {Q : Exit → Act → World → Prop} {ops : Array Oper} {rest : List Oper} {d : Nat} {dd : Option Tmp} {ty : TypeId} {pos : String} {af : Array Edge} {gd : Option (Nat × Bool)}
variable {x y ix iy : Operand} {t t' : TypeId} {u v : Value} {o : Oper} {Kn : Act → World → Prop} {m m' : Md} {e : En} {gk : Bool} {i j : Int} {k : IntKind}
/-- Where the ways through a block meet. -/
theorem jb {α : Type} (i : Nat) {b y : Code} (I : α → Prop) (C : α → List (Nat × En)) (Kc : α → List Ck) (ks : List Nat) (L : List Ck) {F0 : List (Nat × En)} {K0 : List Ck} (hx : HC P N w0 (.block i b) (Exit.then (fun a w => ∃ z, I z ∧ FrOk N (C z ++ F0) a ∧ KOk w0 (Kc z ++ K0) w) Q) F (L ++ K0)) (hy : ∀ z, I z → HC P N w0 y Q (C z ++ F0) (Kc z ++ K0)) (hS : Strip ks F F0 := by exact stp) (hK : Spl K L K0 := by exact sp) : HC P N w0 (.block i b) (Exit.then (y.wp P Q) Q) F K := fun a w ha hw =>
  wp_mono (hx a w ha (hw.spl hK)) (fun e a w h => by
    cases e with
    | normal => obtain ⟨z, h1, h2, h3⟩ := h; exact hy z h1 a w h2 h3
    | _ => exact h)
/-- An operation under a guard: where it holds, and where it fails. -/
theorem gsp {j : Nat} {want : Bool} {op : Op} {p n : Prop} (hG : GV N F ops j want c := by first | exact GV.pt rfl rfl | exact GV.pf rfl rfl | exact GV.gt rfl rfl | exact GV.gf rfl rfl) (B : BP c p n := by exact inferInstance) (ht : p → HG P N w0 ops Q .l (⟨some d, op, ty, pos, af, none⟩ :: rest) F K) (hf : n → HG P N w0 ops Q .l rest ((d, .gd c (.bool false)) :: F) K) (hN : d < N := by decide) : HG P N w0 ops Q .l (⟨some d, op, ty, pos, af, some (j, want)⟩ :: rest) F K := by
  cases hc : c with
  | true => subst hc; exact ug (ht (B.t rfl)) hG rfl
  | false => subst hc; exact sk (hf (B.f rfl)) hG rfl hN
end
end E
end Go.Proofs.Ytjdagbicjhmeeaa
