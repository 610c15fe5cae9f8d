/- The law of Query is walked. -/
import Derived.Test.YtpiiapoafmnhhaaGreatBB
namespace Go.Proofs.YtpiiapoafmnhhaaGreat
namespace E
open Go Go.RowKit
set_option linter.unusedSimpArgs false
set_option linter.unusedVariables false
set_option maxHeartbeats 1000000
set_option maxRecDepth 10000
attribute [local irreducible] HC HL HQ HX HO At Y YV Opd Opds KnX Sl Ld Src GV RV Calls Code.wp eptr adr RdF ownF OneX HG LdC
set_option maxHeartbeats 4000000 in
theorem c_law_FnQuery {v : Value} {xs0 : List UInt8} (w : World) (hr : RdF w v xs0) : Calls Tryz.prog 13 #[v] w (Ret (fun _ : Unit => .bool true) (fun _ => []) w) := by
  have o1 := hr.one
  by_cases hcode : 1048576 < xs0.length
  · refine enter (args := _) Tryz.func13 rfl Tryz.ntmps13 (by simp) ?_
    repeat' (first | refine E.st ?_ | refine E.q3 ?_ | refine E.q ?_ | refine E.qs ?_ | refine E.q2 ?_ | refine E.q4 ?_ | refine E.tr ?_ | refine E.ap (fun _ _ => ?_) | refine E.b1 (fun _ _ => ?_) | refine E.b0 (fun _ _ => ?_) | refine E.bsn (fun _ _ => ?_) | refine E.mk (fun _ _ => ?_) | refine E.bxO (fun _ => ?_) | refine E.al (fun _ => ?_) | refine E.sbO ?_ | refine E.dq ?_ | refine E.ct ?_ | refine E.cf ?_ | refine E.cs (fun hh => ?_) (fun hh => ?_) | refine E.at_block_other rfl ?_)
    all_goals first
      | exact rb
      | (exfalso; omega)
  refine enter (args := _) Tryz.func13 rfl Tryz.ntmps13 (by simp) ?_
  repeat' (first | refine E.st ?_ | refine E.al (fun _ => ?_) | refine E.cm (h := fun w hw => c_DrawQueryRun w (hr.now hw)) (k := fun z => E.wy z.2 (fun hz => E.wy (cut_one' (n := z.1.1.1.2.1.length) (b := z.1.1.1.2.2) z.1.1.1.1.2) (fun h7 => E.wy (cutS_rd (List.mem_cons_of_mem _ (List.mem_singleton.2 rfl)) z.2.1.2 : RdIn w [ownF 63 (.slice z.1.2.1.a z.1.2.1.n z.1.2.1.c) z.1.2.2.l, ownF 65 z.1.1.1.1.1 z.1.1.1.2.1] (cutV z.1.1.1.2.2 z.1.1.1.1.1 z.1.1.1.2.1.length) (cutS z.1.1.1.2.2 z.1.1.1.2.1)) (fun h9 => ?_)))) | refine E.q3 ?_ | refine E.q ?_ | refine E.qs ?_ | refine E.q2 ?_ | refine E.q4 ?_ | refine E.tr ?_ | refine E.ap (fun _ _ => ?_) | refine E.b1 (fun _ _ => ?_) | refine E.b0 (fun _ _ => ?_) | refine E.bsn (fun _ _ => ?_) | refine E.mk (fun _ _ => ?_) | refine E.bxO (fun _ => ?_) | refine E.al (fun _ => ?_) | refine E.sbO ?_ | refine E.dq ?_ | refine E.ct ?_ | refine E.cf ?_ | refine E.cs (fun hh => ?_) (fun hh => ?_) | refine E.at_block_other rfl ?_)
  obtain ⟨⟨⟨⟨⟨v0, hv0⟩, ys, b⟩, c, ⟨k, ⟨l, n⟩⟩⟩, ⟨pA, pn, pc⟩, ⟨pz, ps⟩⟩, ⟨hz1, hz2⟩, hpl⟩ := z
  dsimp only at *
  obtain ⟨hl, hs⟩ := cutS_small b hz1
  generalize cutV b v0 ys.length = u at *
  generalize cutS b ys = xs at *
  have hI : ∀ u' A' m' cp' z' ps' w, RdF w u' xs → RdF w (.slice A' m' cp') ps' → Calls Tryz.prog 38 #[u', .int .i64 c, .agg #[.int .i64 z', .slice A' m' cp'], .agg #[.int .i64 k, .int .i64 l, .int .i64 n]] w (Ret (fun y : V1 × Sv => .tuple #[y.1.1, .agg #[.int .i64 (runQ xs c ⟨z', ps'⟩ ⟨k, ⟨l, n⟩⟩).2.1.z, .slice y.2.a y.2.n y.2.c], .int .i64 (runQ xs c ⟨z', ps'⟩ ⟨k, ⟨l, n⟩⟩).2.2]) (fun y => [ownF 3 y.1.1 (runQ xs c ⟨z', ps'⟩ ⟨k, ⟨l, n⟩⟩).1, ownF 63 (.slice y.2.a y.2.n y.2.c) (runQ xs c ⟨z', ps'⟩ ⟨k, ⟨l, n⟩⟩).2.1.l]) w) := fun u' A' m' cp' z' ps' w a b => c_i_Run w hs hl a b
  have hS : ∀ u' A' m' cp' z' ps' w, RdF w u' xs → RdF w (.slice A' m' cp') ps' → Calls Tryz.prog 43 #[u', .int .i64 c, .agg #[.int .i64 z', .slice A' m' cp'], .agg #[.int .i64 k, .int .i64 l, .int .i64 n]] w (Ret (fun y : V1 × Sv => .tuple #[y.1.1, .agg #[.int .i64 (runQ xs c ⟨z', ps'⟩ ⟨k, ⟨l, n⟩⟩).2.1.z, .slice y.2.a y.2.n y.2.c], .int .i64 (runQ xs c ⟨z', ps'⟩ ⟨k, ⟨l, n⟩⟩).2.2]) (fun y => [ownF 3 y.1.1 (runQ xs c ⟨z', ps'⟩ ⟨k, ⟨l, n⟩⟩).1, ownF 63 (.slice y.2.a y.2.n y.2.c) (runQ xs c ⟨z', ps'⟩ ⟨k, ⟨l, n⟩⟩).2.1.l]) w) := fun u' A' m' cp' z' ps' w a b => c_s_Run w hs hl a b
  have hR : ∀ w, RdF w u xs → Calls Tryz.prog 32 #[u] w (Ret (fun z : V1 × V1 => .tuple #[.agg #[z.1.1, z.2.1], .bool (readL xs).isSome]) (fun z => [ownF 32 z.1.1 (grO (readL xs)).ns, ownF 84 z.2.1 (grO (readL xs)).es]) w) := fun w a => c_i_StoreRead w hs a
  have hI1 := fun w a b => hI u pA pn pc pz ps w a b
  have hS1 := fun w a b => hS u pA pn pc pz ps w a b
  clear hS hI
  obtain ⟨g1, g2⟩ := runQ_len xs c ⟨pz, ps⟩ ⟨k, ⟨l, n⟩⟩
  have hLb : ∀ w, Calls Tryz.prog 34 #[.int .i64 c] w (Ret (fun _ : Unit => .bool (lok c)) (fun _ => []) w) := fun w => c_i_LabelOk w
  have hQb : ∀ w, Calls Tryz.prog 35 #[.agg #[.int .i64 k, .int .i64 l, .int .i64 n]] w (Ret (fun _ : Unit => .bool (qok ⟨k, ⟨l, n⟩⟩)) (fun _ => []) w) := fun w => c_i_QueryOk w
  have hQc : ∀ w, Calls Tryz.prog 37 #[.agg #[.int .i64 k, .int .i64 l, .int .i64 n]] w (Ret (fun _ : Unit => .bool (qok ⟨k, ⟨l, n⟩⟩)) (fun _ => []) w) := fun w => c_s_QueryOk w
  have hPO : ∀ w, RdF w (.slice pA pn pc) ps → Calls Tryz.prog 57 #[.agg #[.int .i64 pz, .slice pA pn pc]] w (Ret (fun _ : Unit => .bool (decide (PlOk ⟨pz, ps⟩))) (fun _ => []) w) := fun w a => c_i_PoolOk w a
  by_cases hb : (readL xs).isSome = true ∧ lok c = true ∧ qok ⟨k, ⟨l, n⟩⟩ = true ∧ PlOk ⟨pz, ps⟩
  · obtain ⟨e0, e1, e2, e3⟩ := hb
    obtain ⟨g0, e⟩ := Option.isSome_iff_exists.1 e0
    have hok := (readL_some e).1
    have f1 : (runQ xs c ⟨pz, ps⟩ ⟨k, ⟨l, n⟩⟩).1 = askL (view g0 c) ⟨k, ⟨l, n⟩⟩ := by rw [runQ_y e e1 e2 e3]
    rw [e] at hR
    rw [e1] at hLb
    rw [e2] at hQb hQc
    rw [decide_eq_true e3] at hPO
    have hVw : ∀ u1 u2 w, RdF w u1 (grO (some g0)).ns → RdF w u2 (grO (some g0)).es → Calls Tryz.prog 29 #[.agg #[u1, u2], .int .i64 c] w (Ret (fun z : V1 × V1 => .agg #[z.1.1, z.2.1]) (fun z => [ownF 32 z.1.1 (view g0 c).ns, ownF 84 z.2.1 (view g0 c).es]) w) := fun u1 u2 w a b => c_i_GraphView (g := g0) w hok a b
    have hiv : ∀ u u' w', RdF w' u (view g0 c).ns → RdF w' u' (view g0 c).es → Calls Tryz.prog 25 #[.agg #[u, u'], .agg #[.int .i64 k, .int .i64 l, .int .i64 n]] w' (Ret (fun z : V1 => z.1) (fun z => [ownF 3 z.1 (askL (view g0 c) ⟨k, ⟨l, n⟩⟩)]) w') := fun u u' w' h1 h2 => c_i_AskQ (g := view g0 c) w' h1 h2
    generalize runQ xs c ⟨pz, ps⟩ ⟨k, ⟨l, n⟩⟩ = R1 at *
    obtain ⟨a1, ⟨z1, l1⟩, n1⟩ := R1
    dsimp only at *
    rw [← f1] at hiv
    generalize view g0 c = vw at *
    generalize grO (some g0) = gr at *
    repeat' (first | refine E.st ?_ | refine E.dxa [0, 1, 2, 3, 4, 5, 6, 7, 8, 9, 10, 11, 12, 13, 14, 15, 16, 18, 17, 19, 20, 21] ?_ | refine E.al (fun _ => ?_) | refine E.cm (h := fun w hw => hI1 w (RdIn.att h9 hw) (RdF.ofK hw)) (k := fun y => E.wy y.1.2 (fun _ => ?_)) | refine E.cm (h := fun w hw => hS1 w (RdIn.att h9 hw) (RdF.ofK hw)) (k := fun y => E.wy y.1.2 (fun _ => ?_)) | refine E.cl (h := fun _ w hw => c_wpIntsQ (xs := a1) w (by omega)) (k := ?_) | refine E.cl (h := fun _ w hw => c_PoolSame_t (z := z1) (xs := l1) w) (k := ?_) | refine E.cm (h := fun w hw => hR w (RdIn.att h9 hw)) (k := fun y => E.wy y.1.2 (fun _ => E.wy y.2.2 (fun _ => ?_))) | refine E.cl (h := fun _ w _ => hLb w) (k := ?_) | refine E.cl (h := fun _ w _ => hQb w) (k := ?_) | refine E.cl (h := fun _ w _ => hQc w) (k := ?_) | refine E.cl (h := fun _ w hw => hPO w (RdF.ofK hw)) (k := ?_) | refine E.dxa [0, 1, 2, 4, 3, 5, 6, 7] ?_ | refine E.cm (h := fun w hw => hVw _ _ w (RdF.ofK hw) (RdF.ofK hw)) (k := fun y => E.wy y.1.2 (fun _ => E.wy y.2.2 (fun _ => ?_))) | refine E.cm (h := fun w hw => hiv _ _ w (RdF.ofK hw) (RdF.ofK hw)) (k := fun zb => E.wy zb.2 (fun _ => ?_)) | refine E.q3 ?_ | refine E.q ?_ | refine E.qs ?_ | refine E.q2 ?_ | refine E.q4 ?_ | refine E.tr ?_ | refine E.ap (fun _ _ => ?_) | refine E.b1 (fun _ _ => ?_) | refine E.b0 (fun _ _ => ?_) | refine E.bsn (fun _ _ => ?_) | refine E.mk (fun _ _ => ?_) | refine E.bxO (fun _ => ?_) | refine E.al (fun _ => ?_) | refine E.sbO ?_ | refine E.dq ?_ | refine E.ct ?_ | refine E.cf ?_ | refine E.cs (fun hh => ?_) (fun hh => ?_) | refine E.at_block_other rfl ?_)
    all_goals first
      | exact rb
      | (exfalso; simp at hh; done)
      | trace_state
  · have f1 : runQ xs c ⟨pz, ps⟩ ⟨k, ⟨l, n⟩⟩ = ([], ⟨0, []⟩, 0) := runQ_n (fun h => hb (by obtain ⟨g0, a, b, d, e⟩ := h; exact ⟨by rw [a]; rfl, b, d, e⟩))
    rw [f1] at hI1 hS1
    have hb2 : ((!(readL xs).isSome || !lok c) || !qok ⟨k, ⟨l, n⟩⟩) || !decide (PlOk ⟨pz, ps⟩) = true := by
      by_cases h1 : (readL xs).isSome = true <;> by_cases h2 : lok c = true <;> by_cases h3 : qok ⟨k, ⟨l, n⟩⟩ = true <;> by_cases h4 : PlOk ⟨pz, ps⟩ <;> simp_all
    clear f1 g1 g2 hb
    generalize (readL xs).isSome = b1 at *
    generalize lok c = b2 at *
    generalize qok ⟨k, ⟨l, n⟩⟩ = b3 at *
    generalize decide (PlOk ⟨pz, ps⟩) = b4 at *
    dsimp only at *
    have hln : ([] : List Int).length = 0 := rfl
    repeat' (first | refine E.st ?_ | refine E.dxa [0, 1, 2, 3, 4, 5, 6, 7, 8, 9, 10, 11, 12, 13, 14, 15, 16, 18, 17, 19, 20, 21] ?_ | refine E.al (fun _ => ?_) | refine E.cm (h := fun w hw => hI1 w (RdIn.att h9 hw) (RdF.ofK hw)) (k := fun y => E.wy y.1.2 (fun _ => ?_)) | refine E.cm (h := fun w hw => hS1 w (RdIn.att h9 hw) (RdF.ofK hw)) (k := fun y => E.wy y.1.2 (fun _ => ?_)) | refine E.cl (h := fun _ w hw => c_wpIntsQ (xs := []) w (by omega)) (k := ?_) | refine E.cl (h := fun _ w hw => c_PoolSame_t (z := 0) (xs := []) w) (k := ?_) | refine E.cm (h := fun w hw => hR w (RdIn.att h9 hw)) (k := fun y => E.wy y.1.2 (fun _ => E.wy y.2.2 (fun _ => ?_))) | refine E.cl (h := fun _ w _ => hLb w) (k := ?_) | refine E.cl (h := fun _ w _ => hQb w) (k := ?_) | refine E.cl (h := fun _ w _ => hQc w) (k := ?_) | refine E.cl (h := fun _ w hw => hPO w (RdF.ofK hw)) (k := ?_) | refine E.cl (h := fun _ w hw => c_PoolSame_t (z := 0) (xs := []) w) (k := ?_) | refine E.q3 ?_ | refine E.q ?_ | refine E.qs ?_ | refine E.q2 ?_ | refine E.q4 ?_ | refine E.tr ?_ | refine E.ap (fun _ _ => ?_) | refine E.b1 (fun _ _ => ?_) | refine E.b0 (fun _ _ => ?_) | refine E.bsn (fun _ _ => ?_) | refine E.mk (fun _ _ => ?_) | refine E.bxO (fun _ => ?_) | refine E.al (fun _ => ?_) | refine E.sbO ?_ | refine E.dq ?_ | refine E.ct ?_ | refine E.cf ?_ | refine E.cs (fun hh => ?_) (fun hh => ?_) | refine E.at_block_other rfl ?_)
    all_goals first
      | exact rb
      | (refine rb ?_; simp; done)
      | (exfalso; revert hb2 hh; cases b1 <;> cases b2 <;> cases b3 <;> cases b4 <;> simp; done)
      | (exfalso; simp at hh; done)
      | trace_state
end E
end Go.Proofs.YtpiiapoafmnhhaaGreat
