/- The law of WorldNew is walked. -/
import Derived.Test.YtmopokamcbcggaaWn
import Derived.Test.YtmopokamcbcggaaUc
namespace Go.Proofs.Ytmopokamcbcggaa
namespace E
open Go Go.RowKit
set_option linter.unusedSimpArgs false
set_option linter.unusedVariables false
set_option maxHeartbeats 1000000
set_option maxRecDepth 10000
attribute [local irreducible] HC HL HQ HX HO At Y YV Opd Opds KnX Sl Ld Src GV RV Calls Code.wp eptr adr RdF ownF OneX HG LdC
theorem c_law_WorldNew {v : Value} {ps : List Pe} (w : World) (hr : RdF w v ps) : Calls Try.prog 4 #[v] w (Ret (fun _ : Unit => .bool true) (fun _ => []) w) := by
  have o1 := hr.one
  by_cases h : (ps.length : Int) ≤ 1048576
  · have h' : ps.length ≤ 1048576 := by omega
    have hle := wn_le ps
    have hq : (wnq (wn ps)).length = (wn ps).length := by simp [wnq]
    have hl : (wnl (wn ps)).length = (wn ps).length := by simp [wnl]
    have hx0 : ∀ x ∈ wnq (wn ps), x.s = ⟨none, 0, 0⟩ := by
      intro x hx
      obtain ⟨p, _, rfl⟩ := List.mem_map.1 hx
      rfl
    refine enter (args := _) Try.func4 rfl Try.ntmps4 (by simp) ?_
    repeat' (first | refine E.st ?_ | refine E.cl (h := fun _ w _ => c_szPersonS_yes w) (k := ?_) | refine E.cm (h := fun w _ => c_toPersonS w (xs := ps)) (k := fun z => ?_) | refine E.cm (h := fun w _ => c_s_WorldNew w (ps := ps)) (k := fun z => E.wz z.2.1 (fun _ => E.wz z.2.2.1 (fun _ => E.wz z.2.2.2 (fun _ => ?_)))) | refine E.cm (h := fun w _ => c_i_WorldNew w (ps := ps)) (k := fun g0 => E.wz g0.2.1 (fun _ => E.wz g0.2.2.1 (fun _ => E.wz g0.2.2.2 (fun _ => ?_)))) | refine E.cl (h := fun _ w hw => same_World (d := wnw (wn ps)) w (RdW.wn hw) (RdW.wn hw)) (k := ?_) | refine E.cl (h := fun _ w hw => same_Pe (xs := ps) w) (k := ?_) | refine E.ckp (h := fun K'' w hw => c_markPersonS (xs := ps) w hw) (k := fun _ => ?_) | refine E.ckl [ownF 69 g0.1.1 (wn ps), ownF 98 g0.1.2.1 (wnq (wn ps)), ownF 3 g0.1.2.2 (wnl (wn ps))] (h := fun w hw => c_markWn w hw hx0) (k := fun _ => ?_) | refine E.cl (h := fun _ w hw => c_heldWn (n1 := (wn ps).length) (n4 := (wnq (wn ps)).length) (n5 := (wnl (wn ps)).length) w (RdF.ofK hw) (RdF.ofK hw) (RdF.ofK hw)) (k := ?_) | refine E.q3 ?_ | refine E.q ?_ | refine E.qs ?_ | refine E.q2 ?_ | refine E.q4 ?_ | refine E.tr ?_ | refine E.ap (fun _ _ => ?_) | refine E.b1 (fun _ _ => ?_) | refine E.b0 (fun _ _ => ?_) | refine E.bsn (fun _ _ => ?_) | refine E.mk (fun _ _ => ?_) | refine E.bxO (fun _ => ?_) | refine E.al (fun _ => ?_) | refine E.sbO ?_ | refine E.dq ?_ | refine E.ct ?_ | refine E.cf ?_ | refine E.cs (fun hh => ?_) (fun hh => ?_) | refine E.at_block_other rfl ?_)
    all_goals first
      | exact rb
      | (exfalso; simp only [Bool.not_true, Bool.or_false, decide_eq_true_eq, not_true_eq_false, Bool.false_eq_true, or_false] at *; omega)
      | skip
  · refine enter (args := _) Try.func4 rfl Try.ntmps4 (by simp) ?_
    repeat' (first | refine E.st ?_ | refine E.cl (h := fun _ w _ => c_szPersonS_no w) (k := ?_)  | refine E.q ?_ | refine E.qs ?_ | refine E.q2 ?_ | refine E.tr ?_ | refine E.ap (fun _ _ => ?_) | refine E.b1 (fun _ _ => ?_) | refine E.b0 (fun _ _ => ?_) | refine E.bsn (fun _ _ => ?_) | refine E.mk (fun _ _ => ?_) | refine E.bx (fun _ => ?_) | refine E.al (fun _ => ?_) | refine E.sb ?_ | refine E.dq ?_ | refine E.ct ?_ | refine E.cf ?_ | refine E.cs (fun hh => ?_) (fun hh => ?_) | refine E.at_block_other rfl ?_)
    exact rb
end E
end Go.Proofs.Ytmopokamcbcggaa
