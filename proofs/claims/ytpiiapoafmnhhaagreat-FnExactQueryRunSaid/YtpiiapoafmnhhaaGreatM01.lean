/- The engine, ninth part: calls that read slices of flat data. -/
import Derived.Test.YtpiiapoafmnhhaaGreatEngM
namespace Go.Proofs.YtpiiapoafmnhhaaGreat
namespace E
set_option linter.unusedSimpArgs false
set_option linter.unusedVariables false
open Go Go.RowKit
section
variable {P : Program} {N : Nat} {w0 : World} {K K' Kp : List Ck} {F : List (Nat × En)} {c : Bool} {Q : Exit → Act → World → Prop} {ops : Array Oper} {rest : List Oper} {d : Nat} {dd : Option Tmp} {ty : TypeId} {pos : String} {af : Array Edge} {gd : Option (Nat × Bool)}
variable {x y : Operand} {t t' e : TypeId} {u v : Value} {o : Oper} {Kn : Act → World → Prop}
/-! ### Calls that read slices of flat data -/
/-- From every state in which K is known the slice v reads as xs. -/
def RdIn {α : Type} [Flat α] (w0 : World) (K : List Ck) (v : Value) (xs : List α) : Prop := ∀ w, KOk w0 K w → RdF w v xs
theorem RdIn.rd {α : Type} [Flat α] {v : Value} {xs : List α} (h : RdF w0 v xs) : RdIn w0 K v xs := fun _ hw => h.now hw
theorem RdIn.own {α : Type} [Flat α] {v : Value} {xs : List α} {e : TypeId} (h : E.ownF e v xs ∈ K) : RdIn w0 K v xs := fun _ hw => RdF.of_own h hw
end
end E
end Go.Proofs.YtpiiapoafmnhhaaGreat
/- The engine, tenth part: a call of a function that comes as a value. -/
namespace Go.Proofs.YtpiiapoafmnhhaaGreat
namespace E
set_option linter.unusedSimpArgs false
set_option linter.unusedVariables false
open Go Go.RowKit
section
variable {P : Program} {N : Nat} {w0 : World} {K K' Kp : List Ck} {F : List (Nat × En)} {c : Bool} {Q : Exit → Act → World → Prop} {ops : Array Oper} {rest : List Oper} {d : Nat} {dd : Option Tmp} {ty : TypeId} {pos : String} {af : Array Edge} {gd : Option (Nat × Bool)}
variable {x y : Operand} {t t' e : TypeId} {u v : Value} {o : Oper} {Kn : Act → World → Prop}
theorem y_callt {f : FuncId} [T : FnOk P f] {g : Operand} {xs : Array Operand} {ts : Array TypeId} {vs : List Value} (hcall : c = true → ∀ w, KOk w0 K w → Calls P f vs.toArray w (Ret (fun _ : Unit => v) (fun _ => []) w)) (hg : Opd N F c g (.func (.func f) #[] #[])) (hx : Opds N F c xs.toList vs) :
    Y P N w0 K F c ⟨dd, .call { callee := .value g, args := xs, argTypes := ts }, ty, pos, af, gd⟩ v := fun a w ha hc hw => by
  obtain ⟨fn, hf, hb, hn⟩ := T.ok
  have h1 : (xs.map a.eval) = vs.toArray := by
    have := hx a ha hc
    apply Array.ext'
    simpa using this
  unfold Oper.quietAt
  have hrun : (execOp a.eval ⟨dd, .call { callee := .value g, args := xs, argTypes := ts }, ty, pos, af, gd⟩).run P w = .ok (.enter f vs.toArray) w := by
    have hnone : fn.body ≠ none := by cases hB : fn.body <;> simp_all
    simp [execOp, resolve, hg a ha hc, Deferred.ofValue, invoke, callFunc, h1, hf, hn, hnone]
  rw [hrun]
  exact ⟨rfl, (hcall hc w hw).mono fun e w' ⟨_, he, hk⟩ => ⟨he, hw.ext hk.below⟩⟩
end
end E
end Go.Proofs.YtpiiapoafmnhhaaGreat
