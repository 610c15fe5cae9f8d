/- The law of QueryRoom is walked. -/
import Derived.Test.YtpiiapoafmnhhaaGreatBB
namespace Go.Proofs.YtpiiapoafmnhhaaGreat
namespace E
open Go Go.RowKit
set_option linter.unusedSimpArgs false
set_option linter.unusedVariables false
set_option maxHeartbeats 1000000
set_option maxRecDepth 10000
attribute [local irreducible] HC HL HQ HX HO At Y YV Opd Opds KnX Sl Ld Src GV RV Calls Code.wp eptr adr RdF ownF OneX HG LdC
set_option maxHeartbeats 4000000 in
theorem c_law_FnQueryRoom {v v' : Value} {xs0 ys0 : List UInt8} (w : World) (hr : RdF w v xs0) (hq : RdF w v' ys0) : Calls Tryz.prog 10 #[v, v'] w (Ret (fun _ : Unit => .bool true) (fun _ => []) w) := by
  have o1 := hr.one
  have o2 := hq.one
  have m1 := hr.le
  have m2 := hq.le
  simp only [maxLen] at m1 m2
  by_cases hcode : 1048576 < xs0.length
  · refine enter (args := _) Tryz.func10 rfl Tryz.ntmps10 (by simp) ?_
    repeat' (first | refine E.st ?_ | refine E.q3 ?_ | refine E.q ?_ | refine E.qs ?_ | refine E.q2 ?_ | refine E.q4 ?_ | refine E.tr ?_ | refine E.ap (fun _ _ => ?_) | refine E.b1 (fun _ _ => ?_) | refine E.b0 (fun _ _ => ?_) | refine E.bsn (fun _ _ => ?_) | refine E.mk (fun _ _ => ?_) | refine E.bxO (fun _ => ?_) | refine E.al (fun _ => ?_) | refine E.sbO ?_ | refine E.dq ?_ | refine E.ct ?_ | refine E.cf ?_ | refine E.cs (fun hh => ?_) (fun hh => ?_) | refine E.at_block_other rfl ?_)
    all_goals first
      | exact rb
      | (exfalso; omega)
  by_cases hmore : 1048576 < ys0.length
  · refine enter (args := _) Tryz.func10 rfl Tryz.ntmps10 (by simp) ?_
    repeat' (first | refine E.st ?_ | refine E.q3 ?_ | refine E.q ?_ | refine E.qs ?_ | refine E.q2 ?_ | refine E.q4 ?_ | refine E.tr ?_ | refine E.ap (fun _ _ => ?_) | refine E.b1 (fun _ _ => ?_) | refine E.b0 (fun _ _ => ?_) | refine E.bsn (fun _ _ => ?_) | refine E.mk (fun _ _ => ?_) | refine E.bxO (fun _ => ?_) | refine E.al (fun _ => ?_) | refine E.sbO ?_ | refine E.dq ?_ | refine E.ct ?_ | refine E.cf ?_ | refine E.cs (fun hh => ?_) (fun hh => ?_) | refine E.at_block_other rfl ?_)
    all_goals first
      | exact rb
      | (exfalso; omega)
  have hk0 : 0 ≤ (ys0.length : Int).tmod 12 ∧ (ys0.length : Int).tmod 12 ≤ 11 := by
    rw [Int.tmod_eq_emod_of_nonneg (by omega)]; omega
  refine enter (args := _) Tryz.func10 rfl Tryz.ntmps10 (by simp) ?_
  repeat' (first | refine E.st ?_ | refine E.al (fun _ => ?_) | refine E.cm (h := fun w hw => c_DrawQueryPages w (hr.now hw)) (k := fun z => E.wy z.2 (fun hz => E.wy (cut_one' (n := z.1.1.2.1.length) (b := z.1.1.2.2) z.1.1.1.2) (fun h7 => E.wy (cutS_rd (List.mem_singleton.2 rfl) z.2.2 : RdIn w [ownF 65 z.1.1.1.1 z.1.1.2.1] (cutV z.1.1.2.2 z.1.1.1.1 z.1.1.2.1.length) (cutS z.1.1.2.2 z.1.1.2.1)) (fun h9 => ?_)))) | refine E.q3 ?_ | refine E.q ?_ | refine E.qs ?_ | refine E.q2 ?_ | refine E.q4 ?_ | refine E.tr ?_ | refine E.ap (fun _ _ => ?_) | refine E.b1 (fun _ _ => ?_) | refine E.b0 (fun _ _ => ?_) | refine E.bsn (fun _ _ => ?_) | refine E.mk (fun _ _ => ?_) | refine E.bxO (fun _ => ?_) | refine E.al (fun _ => ?_) | refine E.sbO ?_ | refine E.dq ?_ | refine E.ct ?_ | refine E.cf ?_ | refine E.cs (fun hh => ?_) (fun hh => ?_) | refine E.at_block_other rfl ?_)
  obtain ⟨⟨⟨⟨v0, hv0⟩, ys, b⟩, c, ⟨k, ⟨l, n⟩⟩⟩, hz1, hz2⟩ := z
  dsimp only at *
  obtain ⟨hl, hs⟩ := cutS_small b hz1
  generalize cutV b v0 ys.length = u at *
  generalize cutS b ys = xs at *
  generalize (ys0.length : Int).tmod 12 = K0 at *
  obtain ⟨k0, rfl⟩ : ∃ k0 : Nat, K0 = (k0 : Int) := ⟨K0.toNat, by omega⟩
  have hI : ∀ u' A' m' cp' z' ps' w, RdF w u' xs → RdF w (.slice A' m' cp') ps' → Calls Tryz.prog 38 #[u', .int .i64 c, .agg #[.int .i64 z', .slice A' m' cp'], .agg #[.int .i64 k, .int .i64 l, .int .i64 n]] w (Ret (fun y : V1 × Sv => .tuple #[y.1.1, .agg #[.int .i64 (runQ xs c ⟨z', ps'⟩ ⟨k, ⟨l, n⟩⟩).2.1.z, .slice y.2.a y.2.n y.2.c], .int .i64 (runQ xs c ⟨z', ps'⟩ ⟨k, ⟨l, n⟩⟩).2.2]) (fun y => [ownF 3 y.1.1 (runQ xs c ⟨z', ps'⟩ ⟨k, ⟨l, n⟩⟩).1, ownF 63 (.slice y.2.a y.2.n y.2.c) (runQ xs c ⟨z', ps'⟩ ⟨k, ⟨l, n⟩⟩).2.1.l]) w) := fun u' A' m' cp' z' ps' w a b => c_i_Run w hs hl a b
  have hS : ∀ u' A' m' cp' z' ps' w, RdF w u' xs → RdF w (.slice A' m' cp') ps' → Calls Tryz.prog 43 #[u', .int .i64 c, .agg #[.int .i64 z', .slice A' m' cp'], .agg #[.int .i64 k, .int .i64 l, .int .i64 n]] w (Ret (fun y : V1 × Sv => .tuple #[y.1.1, .agg #[.int .i64 (runQ xs c ⟨z', ps'⟩ ⟨k, ⟨l, n⟩⟩).2.1.z, .slice y.2.a y.2.n y.2.c], .int .i64 (runQ xs c ⟨z', ps'⟩ ⟨k, ⟨l, n⟩⟩).2.2]) (fun y => [ownF 3 y.1.1 (runQ xs c ⟨z', ps'⟩ ⟨k, ⟨l, n⟩⟩).1, ownF 63 (.slice y.2.a y.2.n y.2.c) (runQ xs c ⟨z', ps'⟩ ⟨k, ⟨l, n⟩⟩).2.1.l]) w) := fun u' A' m' cp' z' ps' w a b => c_s_Run w hs hl a b
  obtain ⟨f1, f2, f3⟩ := run_room (xs := xs) (c := c) (q := ⟨k, ⟨l, n⟩⟩) (k := k0) (by omega)
  obtain ⟨g1, g2⟩ := runQ_len xs c ⟨(k0 : Int), []⟩ ⟨k, ⟨l, n⟩⟩
  obtain ⟨g3, g4⟩ := runQ_len xs c ⟨(k0 : Int) + 1, []⟩ ⟨k, ⟨l, n⟩⟩
  have hI1 := fun u' w a => hI u' none 0 0 (k0 : Int) [] w a (RdF.nil _)
  have hI2 := fun u' w a => hI u' none 0 0 ((k0 : Int) + 1) [] w a (RdF.nil _)
  have hS1 := fun u' w a => hS u' none 0 0 (k0 : Int) [] w a (RdF.nil _)
  clear hI hS
  generalize runQ xs c ⟨(k0 : Int), []⟩ ⟨k, ⟨l, n⟩⟩ = R1 at *
  generalize runQ xs c ⟨(k0 : Int) + 1, []⟩ ⟨k, ⟨l, n⟩⟩ = R2 at *
  obtain ⟨a1, ⟨z1, l1⟩, n1⟩ := R1
  obtain ⟨a2, ⟨z2, l2⟩, n2⟩ := R2
  dsimp only at *
  subst f1
  repeat' (first | refine E.st ?_ | refine E.al (fun _ => ?_) | refine E.cm (h := fun w hw => hI1 u w (RdIn.att h9 hw)) (k := fun y => E.wy y.1.2 (fun _ => ?_)) | refine E.cm (h := fun w hw => hI2 u w (RdIn.att h9 hw)) (k := fun y => E.wy y.1.2 (fun _ => ?_)) | refine E.cm (h := fun w hw => hS1 u w (RdIn.att h9 hw)) (k := fun y => E.wy y.1.2 (fun _ => ?_)) | refine E.cl (h := fun _ w hw => c_wpIntsQ (xs := a1) w (by omega)) (k := ?_) | refine E.cl (h := fun _ w hw => c_PoolSame_t (z := z1) (xs := l1) w) (k := ?_) | refine E.q3 ?_ | refine E.q ?_ | refine E.qs ?_ | refine E.q2 ?_ | refine E.q4 ?_ | refine E.tr ?_ | refine E.ap (fun _ _ => ?_) | refine E.b1 (fun _ _ => ?_) | refine E.b0 (fun _ _ => ?_) | refine E.bsn (fun _ _ => ?_) | refine E.mk (fun _ _ => ?_) | refine E.bxO (fun _ => ?_) | refine E.al (fun _ => ?_) | refine E.sbO ?_ | refine E.dq ?_ | refine E.ct ?_ | refine E.cf ?_ | refine E.cs (fun hh => ?_) (fun hh => ?_) | refine E.at_block_other rfl ?_)
  all_goals first
    | exact rb
    | (refine rb ?_; simp; omega)
    | (exfalso; omega)
    | trace_state
end E
end Go.Proofs.YtpiiapoafmnhhaaGreat
