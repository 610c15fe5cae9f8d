/- The engine, tenth part: a call of a function that comes as a value. -/
import Derived.Test.YtjdagbicjhmeeaaEngN
namespace Go.Proofs.Ytjdagbicjhmeeaa
namespace E
set_option linter.unusedSimpArgs false
set_option linter.unusedVariables false
open Go Go.RowKit
section
variable {P : Program} {N : Nat} {w0 : World} {K K' Kp : List Ck} {F : List (Nat × En)} {c : Bool} {Q : Exit → Act → World → Prop} {ops : Array Oper} {rest : List Oper} {d : Nat} {dd : Option Tmp} {ty : TypeId} {pos : String} {af : Array Edge} {gd : Option (Nat × Bool)}
variable {x y : Operand} {t t' e : TypeId} {u v : Value} {o : Oper} {Kn : Act → World → Prop}
theorem y_callt {f : FuncId} [T : FnOk P f] {g : Operand} {xs : Array Operand} {ts : Array TypeId} {vs : List Value} (hcall : c = true → ∀ w, KOk w0 K w → Calls P f vs.toArray w (Ret (fun _ : Unit => v) (fun _ => []) w)) (hg : Opd N F c g (.func (.func f) #[] #[])) (hx : Opds N F c xs.toList vs) :
    Y P N w0 K F c ⟨dd, .call { callee := .value g, args := xs, argTypes := ts }, ty, pos, af, gd⟩ v := fun a w ha hc hw => by
  obtain ⟨fn, hf, hb, hn⟩ := T.ok
  have h1 : (xs.map a.eval) = vs.toArray := by
    have := hx a ha hc
    apply Array.ext'
    simpa using this
  unfold Oper.quietAt
  have hrun : (execOp a.eval ⟨dd, .call { callee := .value g, args := xs, argTypes := ts }, ty, pos, af, gd⟩).run P w = .ok (.enter f vs.toArray) w := by
    have hnone : fn.body ≠ none := by cases hB : fn.body <;> simp_all
    simp [execOp, resolve, hg a ha hc, Deferred.ofValue, invoke, callFunc, h1, hf, hn, hnone]
  rw [hrun]
  exact ⟨rfl, (hcall hc w hw).mono fun e w' ⟨_, he, hk⟩ => ⟨he, hw.ext hk.below⟩⟩
/-- A call through a value, two slices or whatever else among its arguments found by hand. -/
theorem hct {f : FuncId} [T : FnOk P f] {g : Operand} {xs : Array Operand} {ts : Array TypeId} {vs : List Value} (hcall : ∀ w, KOk w0 K w → Calls P f vs.toArray w (Ret (fun _ : Unit => v) (fun _ => []) w)) (hr : HL P N w0 ops Q rest ((d, .pl v) :: F) K) (hN : d < N := by decide) (hg : Opd N F true g (.func (.func f) #[] #[]) := by exact Opd.pl rfl) (hx : Opds N F true xs.toList vs := by repeat (first | exact Opds.nil | refine Opds.cons (by first | exact Opd.pl rfl | exact Opd.gd rfl (fun h => h) | exact Opd.gd rfl (by simp; done)) ?_)) :
    HL P N w0 ops Q (⟨some d, .call { callee := .value g, args := xs, argTypes := ts }, ty, pos, af, none⟩ :: rest) F K := hl_q rfl rfl hN (y_callt (fun _ => hcall) hg hx) hr
end
end E
end Go.Proofs.Ytjdagbicjhmeeaa
