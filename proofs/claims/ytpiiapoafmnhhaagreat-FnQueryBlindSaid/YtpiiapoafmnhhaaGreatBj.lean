/- The law of QueryBlind is walked. -/
import Derived.Test.YtpiiapoafmnhhaaGreatBB
namespace Go.Proofs.YtpiiapoafmnhhaaGreat
namespace E
open Go Go.RowKit
set_option linter.unusedSimpArgs false
set_option linter.unusedVariables false
set_option maxHeartbeats 1000000
set_option maxRecDepth 10000
attribute [local irreducible] HC HL HQ HX HO At Y YV Opd Opds KnX Sl Ld Src GV RV Calls Code.wp eptr adr RdF ownF OneX HG LdC
set_option maxHeartbeats 4000000 in
theorem c_law_FnQueryBlind {v : Value} {xs0 : List UInt8} (w : World) (hr : RdF w v xs0) : Calls Tryz.prog 12 #[v] w (Ret (fun _ : Unit => .bool true) (fun _ => []) w) := by
  have o1 := hr.one
  by_cases hcode : 1048576 < xs0.length
  · refine enter (args := _) Tryz.func12 rfl Tryz.ntmps12 (by simp) ?_
    repeat' (first | refine E.st ?_ | refine E.q3 ?_ | refine E.q ?_ | refine E.qs ?_ | refine E.q2 ?_ | refine E.q4 ?_ | refine E.tr ?_ | refine E.ap (fun _ _ => ?_) | refine E.b1 (fun _ _ => ?_) | refine E.b0 (fun _ _ => ?_) | refine E.bsn (fun _ _ => ?_) | refine E.mk (fun _ _ => ?_) | refine E.bxO (fun _ => ?_) | refine E.al (fun _ => ?_) | refine E.sbO ?_ | refine E.dq ?_ | refine E.ct ?_ | refine E.cf ?_ | refine E.cs (fun hh => ?_) (fun hh => ?_) | refine E.at_block_other rfl ?_)
    all_goals first
      | exact rb
      | (exfalso; omega)
  refine enter (args := _) Tryz.func12 rfl Tryz.ntmps12 (by simp) ?_
  repeat' (first | refine E.st ?_ | refine E.al (fun _ => ?_) | refine E.cm (h := fun w hw => c_DrawQueryRun w (hr.now hw)) (k := fun z => E.wy z.2 (fun hz => E.wy (cut_one' (n := z.1.1.1.2.1.length) (b := z.1.1.1.2.2) z.1.1.1.1.2) (fun h7 => E.wy (cutS_rd (List.mem_cons_of_mem _ (List.mem_singleton.2 rfl)) z.2.1.2 : RdIn w [ownF 63 (.slice z.1.2.1.a z.1.2.1.n z.1.2.1.c) z.1.2.2.l, ownF 65 z.1.1.1.1.1 z.1.1.1.2.1] (cutV z.1.1.1.2.2 z.1.1.1.1.1 z.1.1.1.2.1.length) (cutS z.1.1.1.2.2 z.1.1.1.2.1)) (fun h9 => ?_)))) | refine E.q3 ?_ | refine E.q ?_ | refine E.qs ?_ | refine E.q2 ?_ | refine E.q4 ?_ | refine E.tr ?_ | refine E.ap (fun _ _ => ?_) | refine E.b1 (fun _ _ => ?_) | refine E.b0 (fun _ _ => ?_) | refine E.bsn (fun _ _ => ?_) | refine E.mk (fun _ _ => ?_) | refine E.bxO (fun _ => ?_) | refine E.al (fun _ => ?_) | refine E.sbO ?_ | refine E.dq ?_ | refine E.ct ?_ | refine E.cf ?_ | refine E.cs (fun hh => ?_) (fun hh => ?_) | refine E.at_block_other rfl ?_)
  obtain ⟨⟨⟨⟨⟨v0, hv0⟩, ys, b⟩, c, ⟨k, ⟨l, n⟩⟩⟩, ⟨pA, pn, pc⟩, ⟨pz, ps⟩⟩, ⟨hz1, hz2⟩, hpl⟩ := z
  dsimp only at *
  obtain ⟨hl, hs⟩ := cutS_small b hz1
  generalize cutV b v0 ys.length = u at *
  generalize cutS b ys = xs at *
  have hI : ∀ u' A' m' cp' z' ps' w, RdF w u' xs → RdF w (.slice A' m' cp') ps' → Calls Tryz.prog 38 #[u', .int .i64 c, .agg #[.int .i64 z', .slice A' m' cp'], .agg #[.int .i64 k, .int .i64 l, .int .i64 n]] w (Ret (fun y : V1 × Sv => .tuple #[y.1.1, .agg #[.int .i64 (runQ xs c ⟨z', ps'⟩ ⟨k, ⟨l, n⟩⟩).2.1.z, .slice y.2.a y.2.n y.2.c], .int .i64 (runQ xs c ⟨z', ps'⟩ ⟨k, ⟨l, n⟩⟩).2.2]) (fun y => [ownF 3 y.1.1 (runQ xs c ⟨z', ps'⟩ ⟨k, ⟨l, n⟩⟩).1, ownF 63 (.slice y.2.a y.2.n y.2.c) (runQ xs c ⟨z', ps'⟩ ⟨k, ⟨l, n⟩⟩).2.1.l]) w) := fun u' A' m' cp' z' ps' w a b => c_i_Run w hs hl a b
  have hS : ∀ u' A' m' cp' z' ps' w, RdF w u' xs → RdF w (.slice A' m' cp') ps' → Calls Tryz.prog 43 #[u', .int .i64 c, .agg #[.int .i64 z', .slice A' m' cp'], .agg #[.int .i64 k, .int .i64 l, .int .i64 n]] w (Ret (fun y : V1 × Sv => .tuple #[y.1.1, .agg #[.int .i64 (runQ xs c ⟨z', ps'⟩ ⟨k, ⟨l, n⟩⟩).2.1.z, .slice y.2.a y.2.n y.2.c], .int .i64 (runQ xs c ⟨z', ps'⟩ ⟨k, ⟨l, n⟩⟩).2.2]) (fun y => [ownF 3 y.1.1 (runQ xs c ⟨z', ps'⟩ ⟨k, ⟨l, n⟩⟩).1, ownF 63 (.slice y.2.a y.2.n y.2.c) (runQ xs c ⟨z', ps'⟩ ⟨k, ⟨l, n⟩⟩).2.1.l]) w) := fun u' A' m' cp' z' ps' w a b => c_s_Run w hs hl a b
  have hP : ∀ u' w, RdF w u' xs → Calls Tryz.prog 18 #[u', .int .i64 c, .agg #[.int .i64 k, .int .i64 l, .int .i64 n]] w (Ret (fun z : V1 => z.1) (fun z => [ownF 63 z.1 (pagesQ xs c ⟨k, ⟨l, n⟩⟩)]) w) := fun u' w a => c_i_QueryPages w hs hl a
  have hvl : (viewS xs c).length ≤ 2000000 := Nat.le_trans (List.length_filter_le _ _) hl
  have hvs : ∀ s ∈ viewS xs c, s.b.size ≤ 4000000 := fun s h => hs s (view_mem h)
  have hJ : ∀ u' A' m' cp' z' ps' w, RdF w u' (viewS xs c) → RdF w (.slice A' m' cp') ps' → Calls Tryz.prog 38 #[u', .int .i64 c, .agg #[.int .i64 z', .slice A' m' cp'], .agg #[.int .i64 k, .int .i64 l, .int .i64 n]] w (Ret (fun y : V1 × Sv => .tuple #[y.1.1, .agg #[.int .i64 (runQ (viewS xs c) c ⟨z', ps'⟩ ⟨k, ⟨l, n⟩⟩).2.1.z, .slice y.2.a y.2.n y.2.c], .int .i64 (runQ (viewS xs c) c ⟨z', ps'⟩ ⟨k, ⟨l, n⟩⟩).2.2]) (fun y => [ownF 3 y.1.1 (runQ (viewS xs c) c ⟨z', ps'⟩ ⟨k, ⟨l, n⟩⟩).1, ownF 63 (.slice y.2.a y.2.n y.2.c) (runQ (viewS xs c) c ⟨z', ps'⟩ ⟨k, ⟨l, n⟩⟩).2.1.l]) w) := fun u' A' m' cp' z' ps' w a b => c_i_Run w hvs hvl a b
  have hQ : ∀ u' w, RdF w u' (viewS xs c) → Calls Tryz.prog 18 #[u', .int .i64 c, .agg #[.int .i64 k, .int .i64 l, .int .i64 n]] w (Ret (fun z : V1 => z.1) (fun z => [ownF 63 z.1 (pagesQ (viewS xs c) c ⟨k, ⟨l, n⟩⟩)]) w) := fun u' w a => c_i_QueryPages w hvs hvl a
  have hR : ∀ w, RdF w u xs → Calls Tryz.prog 32 #[u] w (Ret (fun z : V1 × V1 => .tuple #[.agg #[z.1.1, z.2.1], .bool (readL xs).isSome]) (fun z => [ownF 32 z.1.1 (grO (readL xs)).ns, ownF 84 z.2.1 (grO (readL xs)).es]) w) := fun w a => c_i_StoreRead w hs a
  have hI1 := fun w a b => hI u pA pn pc pz ps w a b
  have hS1 := fun w a b => hS u pA pn pc pz ps w a b
  obtain ⟨g1, g2⟩ := runQ_len xs c ⟨pz, ps⟩ ⟨k, ⟨l, n⟩⟩
  have g5 := pagesQ_lenB xs c ⟨k, ⟨l, n⟩⟩
  rcases e : readL xs with _ | g0
  · rw [e] at hR
    clear hI hS hJ hP hQ
    generalize runQ xs c ⟨pz, ps⟩ ⟨k, ⟨l, n⟩⟩ = R1 at *
    obtain ⟨a1, ⟨z1, l1⟩, n1⟩ := R1
    dsimp only at *
    repeat' (first | refine E.st ?_ | refine E.al (fun _ => ?_) | refine E.cm (h := fun w hw => hI1 w (RdIn.att h9 hw) (RdF.ofK hw)) (k := fun y => E.wy y.1.2 (fun _ => ?_)) | refine E.cm (h := fun w hw => hS1 w (RdIn.att h9 hw) (RdF.ofK hw)) (k := fun y => E.wy y.1.2 (fun _ => ?_)) | refine E.cl (h := fun _ w hw => c_wpIntsQ (xs := a1) w (by omega)) (k := ?_) | refine E.cl (h := fun _ w hw => c_PoolSame_t (z := z1) (xs := l1) w) (k := ?_) | refine E.cm (h := fun w hw => hR w (RdIn.att h9 hw)) (k := fun y => E.wy y.1.2 (fun _ => E.wy y.2.2 (fun _ => ?_))) | refine E.q3 ?_ | refine E.q ?_ | refine E.qs ?_ | refine E.q2 ?_ | refine E.q4 ?_ | refine E.tr ?_ | refine E.ap (fun _ _ => ?_) | refine E.b1 (fun _ _ => ?_) | refine E.b0 (fun _ _ => ?_) | refine E.bsn (fun _ _ => ?_) | refine E.mk (fun _ _ => ?_) | refine E.bxO (fun _ => ?_) | refine E.al (fun _ => ?_) | refine E.sbO ?_ | refine E.dq ?_ | refine E.ct ?_ | refine E.cf ?_ | refine E.cs (fun hh => ?_) (fun hh => ?_) | refine E.at_block_other rfl ?_)
    all_goals first
      | exact rb
      | (exfalso; simp_all; done)
      | trace_state
  · rw [e] at hR
    obtain ⟨f1, f2⟩ := run_blind e c ⟨pz, ps⟩ ⟨k, ⟨l, n⟩⟩
    have hJ1 := fun u' w a b => hJ u' pA pn pc pz ps w a b
    rw [f1] at hJ1
    rw [f2] at hQ
    clear hI hS hJ f1 f2
    generalize runQ xs c ⟨pz, ps⟩ ⟨k, ⟨l, n⟩⟩ = R1 at *
    generalize pagesQ xs c ⟨k, ⟨l, n⟩⟩ = L1 at *
    obtain ⟨a1, ⟨z1, l1⟩, n1⟩ := R1
    dsimp only at *
    repeat' (first | refine E.st ?_ | refine E.dxa [0, 1, 2, 3, 4, 5, 6, 7, 8, 9, 10, 11, 12, 13, 14, 15, 16, 18, 19, 20, 17, 21, 22, 23, 24] ?_ | refine E.al (fun _ => ?_) | refine E.cm (h := fun w hw => hI1 w (RdIn.att h9 hw) (RdF.ofK hw)) (k := fun y => E.wy y.1.2 (fun _ => ?_)) | refine E.cm (h := fun w hw => hS1 w (RdIn.att h9 hw) (RdF.ofK hw)) (k := fun y => E.wy y.1.2 (fun _ => ?_)) | refine E.cl (h := fun _ w hw => c_wpIntsQ (xs := a1) w (by omega)) (k := ?_) | refine E.cl (h := fun _ w hw => c_PoolSame_t (z := z1) (xs := l1) w) (k := ?_) | refine E.cm (h := fun w hw => hR w (RdIn.att h9 hw)) (k := fun y => E.wy y.1.2 (fun _ => E.wy y.2.2 (fun _ => ?_))) | refine E.cm (h := fun w hw => c_i_StoreView (xs := xs) (c := c) w (RdIn.att h9 hw) hl) (k := fun zv => ?_) | refine E.cm (h := fun w hw => hJ1 _ w (RdF.ofK hw) (RdF.ofK hw)) (k := fun y => E.wy y.1.2 (fun _ => ?_)) | refine E.cmg (h := fun w hw => hP _ w (RdIn.att h9 hw)) (k := fun y => E.wy y.2 (fun _ => ?_)) (hB := by first | exact fun _ => KB.x (Or.inr ks_behQ) | exact fun _ => KB.x (Or.inr ks_behQ2)) | refine E.cmg (h := fun w hw => hQ (.slice zv.a zv.n zv.c) w (RdF.ofK hw)) (k := fun y => E.wy y.2 (fun _ => ?_)) (hB := by first | exact fun _ => KB.x (Or.inr ks_behQ) | exact fun _ => KB.x (Or.inr ks_behQ2)) | refine E.cl (h := fun _ w hw => c_wpPages (xs := L1) w (by omega)) (k := ?_) | refine E.q3 ?_ | refine E.q ?_ | refine E.qs ?_ | refine E.q2 ?_ | refine E.q4 ?_ | refine E.tr ?_ | refine E.ap (fun _ _ => ?_) | refine E.b1 (fun _ _ => ?_) | refine E.b0 (fun _ _ => ?_) | refine E.bsn (fun _ _ => ?_) | refine E.mk (fun _ _ => ?_) | refine E.bxO (fun _ => ?_) | refine E.al (fun _ => ?_) | refine E.sbO ?_ | refine E.dq ?_ | refine E.ct ?_ | refine E.cf ?_ | refine E.cs (fun hh => ?_) (fun hh => ?_) | refine E.at_block_other rfl ?_)
    all_goals first
      | exact rb
      | (refine rb ?_; simp; done)
      | (exfalso; simp_all; done)
      | trace_state
end E
end Go.Proofs.YtpiiapoafmnhhaaGreat
