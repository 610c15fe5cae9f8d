/- The draw of a graph and of what is asked. -/
import Derived.Test.YtpiiapoafmnhhaaGreatM19
namespace Go.Proofs.YtpiiapoafmnhhaaGreat
namespace E
open Go Go.RowKit
set_option linter.unusedSimpArgs false
set_option linter.unusedVariables false
set_option maxHeartbeats 1000000
set_option maxRecDepth 10000
attribute [local irreducible] HC HL HQ HX HO At Y YV Opd Opds KnX Sl Ld Src GV RV Calls Code.wp eptr adr RdF ownF OneX HG LdC
def opv (v : Value) (xs : List UInt8) : Value := if xs.length ≤ 2000 then v else pre v (Int.toNat 2000)
theorem opv_rd {w : World} {v : Value} {xs : List UInt8} (hr : RdF w v xs) : RdF w (opv v xs) (xs.take 2000) := by
  unfold opv
  split
  · rename_i h
    rw [List.take_of_length_le h]
    exact hr
  · rename_i h
    exact hr.pre (by show 2000 ≤ _; omega)
theorem c_l9Open {v : Value} {xs : List UInt8} (w : World) (hr : RdF w v xs := by exact rdA) : Calls Tryz.prog 69 #[v] w (Ret (fun z : Nat => .pointer (some ⟨z, 0, none⟩)) (fun z => [.box z 152 [opv v xs, .int .i64 ((0 : Nat) : Int)]]) w) := by
  have o1 := hr.one
  have m1 := hr.le
  simp only [maxLen] at m1
  have o2 := (opv_rd hr).one
  unfold opv at o2 ⊢
  by_cases hl : xs.length ≤ 2000
  · rw [if_pos hl] at o2 ⊢
    refine enter (args := _) Tryz.func69 rfl Tryz.ntmps69 (by simp) ?_
    repeat' (first | refine E.st ?_ | refine E.q3 ?_ | refine E.q ?_ | refine E.qs ?_ | refine E.q2 ?_ | refine E.q4 ?_ | refine E.tr ?_ | refine E.ap (fun _ _ => ?_) | refine E.b1 (fun _ _ => ?_) | refine E.b0 (fun _ _ => ?_) | refine E.bsn (fun _ _ => ?_) | refine E.mk (fun _ _ => ?_) | refine E.bxO (fun _ => ?_) | refine E.al (fun _ => ?_) | refine E.sbO ?_ | refine E.dq ?_ | refine E.ct ?_ | refine E.cf ?_ | refine E.cs (fun hh => ?_) (fun hh => ?_) | refine E.at_block_other rfl ?_)
    exact r1 (α := Nat) _
  · rw [if_neg hl] at o2 ⊢
    refine enter (args := _) Tryz.func69 rfl Tryz.ntmps69 (by simp) ?_
    repeat' (first | refine E.st ?_ | refine E.q3 ?_ | refine E.q ?_ | refine E.qs ?_ | refine E.q2 ?_ | refine E.q4 ?_ | refine E.tr ?_ | refine E.ap (fun _ _ => ?_) | refine E.b1 (fun _ _ => ?_) | refine E.b0 (fun _ _ => ?_) | refine E.bsn (fun _ _ => ?_) | refine E.mk (fun _ _ => ?_) | refine E.bxO (fun _ => ?_) | refine E.al (fun _ => ?_) | refine E.sbO ?_ | refine E.dq ?_ | refine E.ct ?_ | refine E.cf ?_ | refine E.cs (fun hh => ?_) (fun hh => ?_) | refine E.at_block_other rfl ?_)
    exact r1 (α := Nat) _
theorem cut_one' {v : Value} {n : Nat} {b : Bool} (h : v.oneCell' = true) : (cutV b v n).oneCell' = true := by
  cases b with
  | false => exact h
  | true =>
    unfold cutV E.part
    simp only [if_true]
    split <;> first | rfl | exact h
abbrev DT := { z : (V1 × V1) × Gr × Bool × Qu // z.2.1.ns.length ≤ 1010 ∧ z.2.1.es.length ≤ 1010 ∧ (z.2.2.1 = true → 0 < z.2.1.ns.length) }
theorem c_DrawQueryAsk {v : Value} {xs : List UInt8} (w : World) (hr : RdF w v xs := by exact rdA) : Calls Tryz.prog 24 #[v] w (Ret (fun z : DT => .tuple #[.agg #[cutV z.1.2.2.1 z.1.1.1.1 z.1.2.1.ns.length, z.1.1.2.1], .agg #[.int .i64 z.1.2.2.2.k, .int .i64 z.1.2.2.2.n.l, .int .i64 z.1.2.2.2.n.n]]) (fun z => [ownF 32 z.1.1.1.1 z.1.2.1.ns, ownF 84 z.1.1.2.1 z.1.2.1.es]) w) := by
  have o1 := hr.one
  have hb := opv_rd hr
  refine enter (args := _) Tryz.func24 rfl Tryz.ntmps24 (by simp) ?_
  repeat' (first | refine E.st ?_ | refine E.al (fun g5 => ?_) | refine E.cm (h := fun w hw => c_l9Open w (hr.now hw)) (k := fun z => ?_) | refine E.ckq (h := fun w hw => c_l2Graph w hw) (k := fun z1 => E.wy z1.2.1.1.len (fun h1 => E.wy z1.2.1.2.len (fun h2 => E.wy z1.2.2 (fun h3 => E.wy z1.1.1.1.2 (fun h4 => E.wy z1.1.1.2.2 (fun h5 => ?_)))))) | refine E.ckq (h := fun w hw => c_l2Bent (G := z1.1.2.1) w hw) (k := fun z2 => E.wy z2.2 (fun h6 => E.wy (cut_one' (n := z2.1.2.1.ns.length) (b := z2.1.2.2.1) z2.1.1.1.2) (fun h7 => E.wy z2.1.1.2.2 (fun h8 => E.wy (cut_rd (List.mem_singleton.2 rfl) z2.2.2.2.1 : RdIn w [ownF 32 z2.1.1.1.1 z2.1.2.1.ns] (cutV z2.1.2.2.1 z2.1.1.1.1 z2.1.2.1.ns.length) (cutN z2.1.2.2.1 z2.1.2.1.ns)) (fun h9 => ?_))))) | refine E.dxk [.box g5 45 [cutV z2.1.2.2.1 z2.1.1.1.1 z2.1.2.1.ns.length, z2.1.1.2.1]] 5 (i := 3) [0, 1, 2, 3, 4, 5] ?_ | refine E.qp ?_ | refine E.ckq (h := fun w hw => c_l6Query w hw (ns := cutN z2.1.2.2.1 z2.1.2.1.ns)) (k := fun z3 => ?_) | refine E.q3 ?_ | refine E.q ?_ | refine E.qs ?_ | refine E.q2 ?_ | refine E.q4 ?_ | refine E.tr ?_ | refine E.ap (fun _ _ => ?_) | refine E.b1 (fun _ _ => ?_) | refine E.b0 (fun _ _ => ?_) | refine E.bsn (fun _ _ => ?_) | refine E.mk (fun _ _ => ?_) | refine E.bxO (fun _ => ?_) | refine E.al (fun _ => ?_) | refine E.sbO ?_ | refine E.dq ?_ | refine E.ct ?_ | refine E.cf ?_ | refine E.cs (fun hh => ?_) (fun hh => ?_) | refine E.at_block_other rfl ?_)
  exact rn (α := DT) ⟨(z2.1.1, z2.1.2.1, z2.1.2.2.1, z3.1), h6.1, h6.2.1, h6.2.2.1⟩ (hK := ksv)
end E
end Go.Proofs.YtpiiapoafmnhhaaGreat
