/- Chunks are let go, where what remains is not told; slots that are read no more are let go. -/
import Derived.Test.YtpiiapoafmnhhaaGreatM12
namespace Go.Proofs.YtpiiapoafmnhhaaGreat
namespace E
open Go Go.RowKit
theorem ksv {K K' : List Ck} (h : KSub K K' := by (repeat (first | exact KSub.nil _ | exact KSub.refl _ | refine KSub.pick pk ?_ | refine KSub.ownF pk eqq ?_ | refine KSub.box pk eqq ?_ | refine KSub.drop1 ?_)); first | done | fail) : KSub K K' := h
theorem ks_one {K : List Ck} {k : Ck} : KSub (k :: K) K := KSub.drop1 (KSub.refl K)
theorem kb_one {ops : Array Oper} {K : List Ck} {k : Ck} {s i : Nat} {is : List Nat} : KB ops (.x s K (i :: is)) (k :: K) := KB.x (Or.inr ks_one)
/-- Only these slots are read behind. -/
theorem hcf {P : Program} {N : Nat} {w0 : World} {K : List Ck} {F : List (Nat × En)} {Q : Exit → Act → World → Prop} {c : Code} (F' : List (Nat × En)) (h : HC P N w0 c Q F' K) (hF : FSub F F' := by exact fs) : HC P N w0 c Q F K := fun a w ha hw => h a w (ha.less hF) hw
/-- Only these slots are read, and only these chunks are needed, behind. -/
theorem hck {P : Program} {N : Nat} {w0 : World} {K : List Ck} {F : List (Nat × En)} {Q : Exit → Act → World → Prop} {c : Code} (F' : List (Nat × En)) (K' : List Ck) (h : HC P N w0 c Q F' K') (hF : FSub F F' := by exact fs) (hK : KSub K K' := by exact ksv) : HC P N w0 c Q F K := fun a w ha hw => h a w (ha.less hF) (hw.sub hK)
end E
end Go.Proofs.YtpiiapoafmnhhaaGreat
