/- The law of WorldOk is walked. -/
import Derived.Test.YtmopokamcbcggaaCf
namespace Go.Proofs.Ytmopokamcbcggaa
namespace E
open Go Go.RowKit
set_option linter.unusedSimpArgs false
set_option linter.unusedVariables false
set_option maxHeartbeats 1000000
set_option maxRecDepth 10000
attribute [local irreducible] HC HL HQ HX HO At Y YV Opd Opds KnX Sl Ld Src GV RV Calls Code.wp eptr adr RdF ownF OneX HG LdC
theorem RdW.ofK' {w0 w : World} {K : List Ck} {s1 s2 s3 s4 s5 : Sv} {rows : List PlR} {d : Wd} (hw : KOk w0 K w) (hs : InK (wck s1 s2 s3 s4 s5 rows d) K := by exact ink) (hM : Match rows d.qs := by assumption) : RdW w (.slice s1.a s1.n s1.c) (.slice s2.a s2.n s2.c) (.slice s3.a s3.n s3.c) (.slice s4.a s4.n s4.c) (.slice s5.a s5.n s5.c) d := RdW.ofK hw hM hs
theorem ks_beh {L K : List Ck} : KSub (L ++ K) K := KSub.ofPerm2 _ _ L List.perm_append_comm
theorem wz {a G : Prop} (h : a) (k : a → G) : G := k h
theorem same_World {v1 v2 v3 v4 v5 u1 u2 u3 u4 u5 : Value} {d : Wd} (w : World) (hr : RdW w v1 v2 v3 v4 v5 d) (hq : RdW w u1 u2 u3 u4 u5 d) : Calls Try.prog 14 #[.agg #[v1, v2, v3, v4, v5], .agg #[u1, u2, u3, u4, u5]] w (Ret (fun _ : Unit => .bool true) (fun _ => []) w) := by
  have := c_eqWorld w hr hq
  rwa [decide_eq_true rfl] at this
theorem c_law_WorldOk {v1 v2 v3 v4 v5 : Value} {d : Wd} (w : World) (hr : RdW w v1 v2 v3 v4 v5 d) : Calls Try.prog 5 #[.agg #[v1, v2, v3, v4, v5]] w (Ret (fun _ : Unit => .bool true) (fun _ => []) w) := by
  have o1 := hr.ps.one
  have o2 := hr.ns.one
  have o3 := hr.es.one
  have o4 := hr.qs.one
  have o5 := hr.ls.one
  by_cases h : (d.sz : Int) ≤ 1048576
  · have h' : d.sz ≤ 1048576 := by omega
    refine enter (args := _) Try.func5 rfl Try.ntmps5 (by simp) ?_
    repeat' (first | refine E.st ?_ | refine E.dxa [0, 1, 2, 3, 4] ?_ | refine E.cl (h := fun _ w _ => c_szWorld_yes w) (k := ?_) | refine E.cm (h := fun w _ => c_toWorld w) (k := fun z => E.wz z.2.2 (fun _ => ?_)) | refine E.cm (h := fun w _ => c_toWorld w) (k := fun z => E.wz z.2.2 (fun _ => ?_)) (hB := fun _ => KB.x (Or.inr ks_beh)) | refine E.cl (h := fun _ w hw => c_s_WorldOk w (RdW.ofK' hw)) (k := ?_) | refine E.cl (h := fun _ w hw => c_i_WorldOk w (RdW.ofK' hw)) (k := ?_) | refine E.cl (h := fun _ w hw => same_World w (RdW.ofK' hw) (RdW.ofK' hw)) (k := ?_) | refine E.q ?_ | refine E.qs ?_ | refine E.q2 ?_ | refine E.tr ?_ | refine E.ap (fun _ _ => ?_) | refine E.b1 (fun _ _ => ?_) | refine E.b0 (fun _ _ => ?_) | refine E.bsn (fun _ _ => ?_) | refine E.mk (fun _ _ => ?_) | refine E.bx (fun _ => ?_) | refine E.al (fun _ => ?_) | refine E.sb ?_ | refine E.dq ?_ | refine E.ct ?_ | refine E.cf ?_ | refine E.cs (fun hh => ?_) (fun hh => ?_) | refine E.at_block_other rfl ?_)
    all_goals first
      | (refine E.cl (h := fun _ w hw => same_World w (RdW.ofK' hw) (RdW.ofK' hw)) (hQ := KC.x (by decide +kernel) (Or.inr ks_beh)) (k := ?_)
         refine E.q ?_ (hQ := KQ.x (by decide +kernel) ks_beh)
         repeat' (first | refine E.st ?_ | refine E.q ?_ | refine E.qs ?_ | refine E.q2 ?_ | refine E.tr ?_ | refine E.ap (fun _ _ => ?_) | refine E.b1 (fun _ _ => ?_) | refine E.b0 (fun _ _ => ?_) | refine E.bsn (fun _ _ => ?_) | refine E.mk (fun _ _ => ?_) | refine E.bx (fun _ => ?_) | refine E.al (fun _ => ?_) | refine E.sb ?_ | refine E.dq ?_ | refine E.ct ?_ | refine E.cf ?_ | refine E.cs (fun hh => ?_) (fun hh => ?_) | refine E.at_block_other rfl ?_)
         exact rb)
      | exact rb
      | (simp at hh; done)
      | trace_state
  · refine enter (args := _) Try.func5 rfl Try.ntmps5 (by simp) ?_
    repeat' (first | refine E.st ?_ | refine E.cl (h := fun _ w _ => c_szWorld_no w) (k := ?_)  | refine E.q ?_ | refine E.qs ?_ | refine E.q2 ?_ | refine E.tr ?_ | refine E.ap (fun _ _ => ?_) | refine E.b1 (fun _ _ => ?_) | refine E.b0 (fun _ _ => ?_) | refine E.bsn (fun _ _ => ?_) | refine E.mk (fun _ _ => ?_) | refine E.bx (fun _ => ?_) | refine E.al (fun _ => ?_) | refine E.sb ?_ | refine E.dq ?_ | refine E.ct ?_ | refine E.cf ?_ | refine E.cs (fun hh => ?_) (fun hh => ?_) | refine E.at_block_other rfl ?_)
    exact rb
end E
end Go.Proofs.Ytmopokamcbcggaa
