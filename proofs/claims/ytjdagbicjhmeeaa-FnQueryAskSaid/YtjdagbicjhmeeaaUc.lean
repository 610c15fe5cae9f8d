/- A call that changes several chunks of the caller's. -/
import Derived.Test.YtjdagbicjhmeeaaU
namespace Go.Proofs.Ytjdagbicjhmeeaa
namespace E
open Go Go.RowKit
set_option linter.unusedSimpArgs false
set_option linter.unusedVariables false
set_option maxHeartbeats 1000000
set_option maxRecDepth 10000
attribute [local irreducible] HC HL HQ HX HO At Y YV Opd Opds KnX Sl Ld Src GV RV Calls Code.wp eptr adr RdF ownF OneX HG LdC
theorem ckl {P : Program} {N : Nat} {w0 : World} {K M : List Ck} {F : List (Nat × En)} {Q : Exit → Act → World → Prop} {ops : Array Oper} {rest : List Oper} {d : Nat} {ty : TypeId} {pos : String} {af : Array Edge} {m m' : Md} {α : Type} {val : α → Value} {Kr : α → List Ck} {f : FuncId} [T : FnOk P f] {xs : Array Operand} {ts : Array TypeId} {vs : List Value} (L : List Ck) (hN : d < N := by decide) (hx : Opds N F true xs.toList vs := by exact opx) (hp : Spl K L M := by exact sp) (h : ∀ w, KOk w0 (M ++ L) w → Calls P f vs.toArray w (RetK val Kr w0)) (k : ∀ z, HG P N w0 ops Q m' rest ((d, .pl (val z)) :: F) (Kr z)) (hX : NX m m' := by first | exact NX.l | exact NX.q | exact NX.x _ _ _ _ | exact NX.y _ _ _ _) (hA : KA ops m := by first | exact KA.l | exact KA.y | exact KA.x (by decide +kernel)) (hB : ∀ z, KB ops m (Kr z) := by first | exact fun _ => KB.l | exact fun _ => KB.x (Or.inr ks) | exact fun _ => KB.x (Or.inl (by decide +kernel)) | exact fun _ => KB.y (Or.inr ks) | exact fun _ => KB.y (Or.inl (by decide +kernel))) :
    HG P N w0 ops Q m (⟨some d, .call { callee := .value (.func f), args := xs, argTypes := ts }, ty, pos, af, none⟩ :: rest) F K := ck hN hx (fun w hw => h w (hw.perm (hp.perm.trans List.perm_append_comm))) k hX hA hB
end E
end Go.Proofs.Ytjdagbicjhmeeaa
