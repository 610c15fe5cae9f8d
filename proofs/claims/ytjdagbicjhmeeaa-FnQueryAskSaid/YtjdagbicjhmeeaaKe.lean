/- What is done to a graph, as the reference says it: the second part. -/
import Derived.Test.YtjdagbicjhmeeaaKd
namespace Go.Proofs.Ytjdagbicjhmeeaa
namespace E
open Go Go.RowKit
set_option linter.unusedSimpArgs false
set_option linter.unusedVariables false
set_option maxHeartbeats 1000000
set_option maxRecDepth 10000
attribute [local irreducible] HC HL HQ HX HO At Y YV Opd Opds KnX Sl Ld Src GV RV Calls Code.wp eptr adr RdF ownF OneX HG LdC
theorem pos_in (ns : List Nd) (n : Nd) : 0 ≤ pos ns n ↔ n ∈ ns := by
  have := @pos_neg ns n
  constructor
  · intro h; exact Decidable.byContradiction (fun hn => by have := this.2 hn; omega)
  · intro h; exact Int.not_lt.1 (fun hn => (this.1 hn) h)
theorem pos_mem {ns : List Nd} {n : Nd} : decide (0 ≤ pos ns n) = decide (n ∈ ns) := by
  rw [decide_eq_decide]
  have := @pos_neg ns n
  constructor
  · intro h; exact Decidable.byContradiction (fun hn => by have := this.2 hn; omega)
  · intro h; exact Int.not_lt.1 (fun hn => (this.1 hn) h)
theorem posG_mem {α : Type} [DecidableEq α] {ns : List α} {n : α} : decide (0 ≤ posG ns n) = decide (n ∈ ns) := by
  rw [decide_eq_decide]; exact posG_neg
theorem c_l2Ends {v u : Value} {ns : List Nd} {es : List Eg} {k nl nn el al an bl bn : Int} (w : World) (hr : RdF w v ns := by exact rdA) (hq : RdF w u es := by exact rdA) : Calls Try.prog 110 #[.agg #[v, u], .agg #[.int .i64 k, .int .i64 nl, .int .i64 nn, .int .i64 el, .int .i64 al, .int .i64 an, .int .i64 bl, .int .i64 bn]] w (Ret (fun _ : Unit => .int .i64 (endsC ⟨ns, es⟩ ⟨k, ⟨nl, nn⟩, ⟨el, ⟨al, an⟩, ⟨bl, bn⟩⟩⟩)) (fun _ => []) w) := by
  have o1 := hr.one
  have o2 := hq.one
  refine enter (args := _) Try.func110 rfl Try.ntmps110 (by simp) ?_
  repeat' (first | refine E.st ?_ | refine E.cl (h := fun _ w _ => c_s_l2At w) (k := ?_) | refine E.cl (h := fun _ w _ => c_l2EdgeAt w) (k := ?_) | refine E.cl (h := fun _ w _ => c_s_l2Nodes w) (k := ?_) | refine E.cl (h := fun _ w _ => c_s_l2Edges w) (k := ?_)  | refine E.q3 ?_ | refine E.q ?_ | refine E.qs ?_ | refine E.q2 ?_ | refine E.q4 ?_ | refine E.tr ?_ | refine E.ap (fun _ _ => ?_) | refine E.b1 (fun _ _ => ?_) | refine E.b0 (fun _ _ => ?_) | refine E.bsn (fun _ _ => ?_) | refine E.mk (fun _ _ => ?_) | refine E.bxO (fun _ => ?_) | refine E.al (fun _ => ?_) | refine E.sbO ?_ | refine E.dq ?_ | refine E.ct ?_ | refine E.cf ?_ | refine E.cs (fun hh => ?_) (fun hh => ?_) | refine E.at_block_other rfl ?_)
  all_goals
    refine ri ?_
    have e1 := pos_in ns ⟨nl, nn⟩
    have e2 := @posG_neg Eg _ es ⟨el, ⟨al, an⟩, ⟨bl, bn⟩⟩
    have e3 := pos_in ns ⟨al, an⟩
    have e4 := pos_in ns ⟨bl, bn⟩
    unfold endsC
    grind
theorem eg_ab {x : Eg} {l n : Int} : ¬ [x.a.l, x.a.n] = [l, n] ↔ x.a ≠ ⟨l, n⟩ := nd_ne
end E
end Go.Proofs.Ytjdagbicjhmeeaa
