/- The law of WorldSame is walked. -/
import Derived.Test.YtmopokamcbcggaaSb
namespace Go.Proofs.Ytmopokamcbcggaa
namespace E
open Go Go.RowKit
set_option linter.unusedSimpArgs false
set_option linter.unusedVariables false
set_option maxHeartbeats 1000000
set_option maxRecDepth 10000
attribute [local irreducible] HC HL HQ HX HO At Y YV Opd Opds KnX Sl Ld Src GV RV Calls Code.wp eptr adr RdF ownF OneX HG LdC
theorem c_law_WorldSame {v1 v2 v3 v4 v5 u1 u2 u3 u4 u5 : Value} {d d' : Wd} (w : World) (hr : RdW w v1 v2 v3 v4 v5 d) (hq : RdW w u1 u2 u3 u4 u5 d') : Calls Try.prog 3 #[.agg #[v1, v2, v3, v4, v5], .agg #[u1, u2, u3, u4, u5]] w (Ret (fun _ : Unit => .bool true) (fun _ => []) w) := by
  have o1 := hr.ps.one
  have o2 := hr.ns.one
  have o3 := hr.es.one
  have o4 := hr.qs.one
  have o5 := hr.ls.one
  have p1 := hq.ps.one
  have p2 := hq.ns.one
  have p3 := hq.es.one
  have p4 := hq.qs.one
  have p5 := hq.ls.one
  by_cases h : (d.sz : Int) ≤ 1048576
  · have h' : d.sz ≤ 1048576 := by omega
    by_cases h2 : (d'.sz : Int) ≤ 1048576 - d.sz
    · have h2' : d'.sz ≤ 1048576 := by omega
      refine enter (args := _) Try.func3 rfl Try.ntmps3 (by simp) ?_
      repeat' (first | refine E.st ?_ | refine E.dxa [0, 2, 1, 3, 4, 5] ?_ | refine E.dxa [0, 1, 2, 3, 4] ?_ | refine E.dxa [0, 1, 2, 3, 4] ?_ | refine E.cl (h := fun _ w _ => c_szWorld_yes w) (k := ?_) | refine E.cm (h := fun w _ => c_toWorld w (d := d)) (k := fun z => E.wz z.2.2 (fun _ => ?_)) | refine E.cm (h := fun w _ => c_toWorld w (d := d')) (k := fun z => E.wz z.2.2 (fun _ => ?_)) | refine E.cl (h := fun _ w hw => c_s_WorldSame w (RdW.ofK' hw) (RdW.ofK' hw)) (k := ?_) | refine E.cl (h := fun _ w hw => c_i_WorldSame w (RdW.ofK' hw) (RdW.ofK' hw)) (k := ?_) | refine E.cl (h := fun _ w hw => same_World w (RdW.ofK' hw) (RdW.ofK' hw)) (k := ?_) | refine E.q3 ?_ | refine E.q ?_ | refine E.qs ?_ | refine E.q2 ?_ | refine E.q4 ?_ | refine E.tr ?_ | refine E.ap (fun _ _ => ?_) | refine E.b1 (fun _ _ => ?_) | refine E.b0 (fun _ _ => ?_) | refine E.bsn (fun _ _ => ?_) | refine E.mk (fun _ _ => ?_) | refine E.bxO (fun _ => ?_) | refine E.al (fun _ => ?_) | refine E.sbO ?_ | refine E.dq ?_ | refine E.ct ?_ | refine E.cf ?_ | refine E.cs (fun hh => ?_) (fun hh => ?_) | refine E.at_block_other rfl ?_)
      all_goals first
        | exact rb
        | (exfalso; simp_all; done)
        | skip
    · refine enter (args := _) Try.func3 rfl Try.ntmps3 (by simp) ?_
      repeat' (first | refine E.st ?_ | refine E.cl (h := fun _ w _ => c_szWorld_yes w) (k := ?_) | refine E.cl (h := fun _ w _ => c_szWorld_no w) (k := ?_)  | refine E.q ?_ | refine E.qs ?_ | refine E.q2 ?_ | refine E.tr ?_ | refine E.ap (fun _ _ => ?_) | refine E.b1 (fun _ _ => ?_) | refine E.b0 (fun _ _ => ?_) | refine E.bsn (fun _ _ => ?_) | refine E.mk (fun _ _ => ?_) | refine E.bx (fun _ => ?_) | refine E.al (fun _ => ?_) | refine E.sb ?_ | refine E.dq ?_ | refine E.ct ?_ | refine E.cf ?_ | refine E.cs (fun hh => ?_) (fun hh => ?_) | refine E.at_block_other rfl ?_)
      all_goals exact rb
  · refine enter (args := _) Try.func3 rfl Try.ntmps3 (by simp) ?_
    repeat' (first | refine E.st ?_ | refine E.cl (h := fun _ w _ => c_szWorld_no w) (k := ?_)  | refine E.q ?_ | refine E.qs ?_ | refine E.q2 ?_ | refine E.tr ?_ | refine E.ap (fun _ _ => ?_) | refine E.b1 (fun _ _ => ?_) | refine E.b0 (fun _ _ => ?_) | refine E.bsn (fun _ _ => ?_) | refine E.mk (fun _ _ => ?_) | refine E.bx (fun _ => ?_) | refine E.al (fun _ => ?_) | refine E.sb ?_ | refine E.dq ?_ | refine E.ct ?_ | refine E.cf ?_ | refine E.cs (fun hh => ?_) (fun hh => ?_) | refine E.at_block_other rfl ?_)
    exact rb
end E
end Go.Proofs.Ytmopokamcbcggaa
