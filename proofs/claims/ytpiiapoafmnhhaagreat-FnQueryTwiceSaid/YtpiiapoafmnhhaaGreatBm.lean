/- The law of QueryTwice is walked. -/
import Derived.Test.YtpiiapoafmnhhaaGreatBB
namespace Go.Proofs.YtpiiapoafmnhhaaGreat
namespace E
open Go Go.RowKit
set_option linter.unusedSimpArgs false
set_option linter.unusedVariables false
set_option maxHeartbeats 1000000
set_option maxRecDepth 10000
attribute [local irreducible] HC HL HQ HX HO At Y YV Opd Opds KnX Sl Ld Src GV RV Calls Code.wp eptr adr RdF ownF OneX HG LdC
set_option maxHeartbeats 4000000 in
theorem c_law_FnQueryTwice {v : Value} {xs0 : List UInt8} (w : World) (hr : RdF w v xs0) : Calls Tryz.prog 11 #[v] w (Ret (fun _ : Unit => .bool true) (fun _ => []) w) := by
  have o1 := hr.one
  by_cases hcode : 1048576 < xs0.length
  · refine enter (args := _) Tryz.func11 rfl Tryz.ntmps11 (by simp) ?_
    repeat' (first | refine E.st ?_ | refine E.q3 ?_ | refine E.q ?_ | refine E.qs ?_ | refine E.q2 ?_ | refine E.al (fun _ => ?_) | refine E.sbO ?_ | refine E.dq ?_ | refine E.ct ?_ | refine E.cf ?_ | refine E.cs (fun hh => ?_) (fun hh => ?_) | refine E.at_block_other rfl ?_)
    all_goals first
      | exact rb
      | (exfalso; omega)
  refine enter (args := _) Tryz.func11 rfl Tryz.ntmps11 (by simp) ?_
  repeat' (first | refine E.st ?_ | refine E.al (fun _ => ?_) | refine E.cm (h := fun w hw => c_DrawQueryRun w (hr.now hw)) (k := fun z => E.wy z.2 (fun hz => E.wy (cut_one' (n := z.1.1.1.2.1.length) (b := z.1.1.1.2.2) z.1.1.1.1.2) (fun h7 => E.wy (cutS_rd (List.mem_cons_of_mem _ (List.mem_singleton.2 rfl)) z.2.1.2 : RdIn w [ownF 63 (.slice z.1.2.1.a z.1.2.1.n z.1.2.1.c) z.1.2.2.l, ownF 65 z.1.1.1.1.1 z.1.1.1.2.1] (cutV z.1.1.1.2.2 z.1.1.1.1.1 z.1.1.1.2.1.length) (cutS z.1.1.1.2.2 z.1.1.1.2.1)) (fun h9 => ?_)))) | refine E.q3 ?_ | refine E.q ?_ | refine E.qs ?_ | refine E.q2 ?_ | refine E.al (fun _ => ?_) | refine E.sbO ?_ | refine E.dq ?_ | refine E.ct ?_ | refine E.cf ?_ | refine E.cs (fun hh => ?_) (fun hh => ?_) | refine E.at_block_other rfl ?_)
  obtain ⟨⟨⟨⟨⟨v0, hv0⟩, ys, b⟩, c, ⟨k, ⟨l, n⟩⟩⟩, ⟨pA, pn, pc⟩, ⟨pz, ps⟩⟩, ⟨hz1, hz2⟩, hpl⟩ := z
  dsimp only at *
  obtain ⟨hl, hs⟩ := cutS_small b hz1
  generalize cutV b v0 ys.length = u at *
  generalize cutS b ys = xs at *
  have hI : ∀ u' A' m' cp' z' ps' w, RdF w u' xs → RdF w (.slice A' m' cp') ps' → Calls Tryz.prog 38 #[u', .int .i64 c, .agg #[.int .i64 z', .slice A' m' cp'], .agg #[.int .i64 k, .int .i64 l, .int .i64 n]] w (Ret (fun y : V1 × Sv => .tuple #[y.1.1, .agg #[.int .i64 (runQ xs c ⟨z', ps'⟩ ⟨k, ⟨l, n⟩⟩).2.1.z, .slice y.2.a y.2.n y.2.c], .int .i64 (runQ xs c ⟨z', ps'⟩ ⟨k, ⟨l, n⟩⟩).2.2]) (fun y => [ownF 3 y.1.1 (runQ xs c ⟨z', ps'⟩ ⟨k, ⟨l, n⟩⟩).1, ownF 63 (.slice y.2.a y.2.n y.2.c) (runQ xs c ⟨z', ps'⟩ ⟨k, ⟨l, n⟩⟩).2.1.l]) w) := fun u' A' m' cp' z' ps' w a b => c_i_Run w hs hl a b
  have hS : ∀ u' A' m' cp' z' ps' w, RdF w u' xs → RdF w (.slice A' m' cp') ps' → Calls Tryz.prog 43 #[u', .int .i64 c, .agg #[.int .i64 z', .slice A' m' cp'], .agg #[.int .i64 k, .int .i64 l, .int .i64 n]] w (Ret (fun y : V1 × Sv => .tuple #[y.1.1, .agg #[.int .i64 (runQ xs c ⟨z', ps'⟩ ⟨k, ⟨l, n⟩⟩).2.1.z, .slice y.2.a y.2.n y.2.c], .int .i64 (runQ xs c ⟨z', ps'⟩ ⟨k, ⟨l, n⟩⟩).2.2]) (fun y => [ownF 3 y.1.1 (runQ xs c ⟨z', ps'⟩ ⟨k, ⟨l, n⟩⟩).1, ownF 63 (.slice y.2.a y.2.n y.2.c) (runQ xs c ⟨z', ps'⟩ ⟨k, ⟨l, n⟩⟩).2.1.l]) w) := fun u' A' m' cp' z' ps' w a b => c_s_Run w hs hl a b
  have hP : ∀ u' w, RdF w u' xs → Calls Tryz.prog 18 #[u', .int .i64 c, .agg #[.int .i64 k, .int .i64 l, .int .i64 n]] w (Ret (fun z : V1 => z.1) (fun z => [ownF 63 z.1 (pagesQ xs c ⟨k, ⟨l, n⟩⟩)]) w) := fun u' w a => c_i_QueryPages w hs hl a
  have hI1 := fun w a b => hI u pA pn pc pz ps w a b
  have hS1 := fun w a b => hS u pA pn pc pz ps w a b
  clear hS
  obtain ⟨g1, g2⟩ := runQ_len xs c ⟨pz, ps⟩ ⟨k, ⟨l, n⟩⟩
  have g5 := pagesQ_lenB xs c ⟨k, ⟨l, n⟩⟩
  have hPO : ∀ w, RdF w (.slice pA pn pc) ps → Calls Tryz.prog 56 #[.agg #[.int .i64 pz, .slice pA pn pc]] w (Ret (fun _ : Unit => .bool (decide (PlOk ⟨pz, ps⟩))) (fun _ => []) w) := fun w a => c_s_PoolOk w a
  by_cases hb : PlOk ⟨pz, ps⟩ ∧ pagesQ xs c ⟨k, ⟨l, n⟩⟩ ≠ []
  · obtain ⟨hb1, hb2⟩ := hb
    rw [decide_eq_true hb1] at hPO
    obtain ⟨f1, f2, f3, f4⟩ := run_twice (c := c) (xs := xs) hb1 hb2
    have hb3 : 0 < (pagesQ xs c ⟨k, ⟨l, n⟩⟩).length := List.length_pos_iff.2 hb2
    generalize runQ xs c ⟨pz, ps⟩ ⟨k, ⟨l, n⟩⟩ = R1 at *
    obtain ⟨a1, ⟨z1, l1⟩, n1⟩ := R1
    have hJ := fun A m cp w a b => hI u A m cp z1 l1 w a b
    dsimp only at *
    clear hI
    generalize runQ xs c ⟨z1, l1⟩ ⟨k, ⟨l, n⟩⟩ = R2 at *
    generalize pagesQ xs c ⟨k, ⟨l, n⟩⟩ = L1 at *
    obtain ⟨a2, ⟨z2, l2⟩, n2⟩ := R2
    dsimp only at *
    subst f1
    repeat' (first | refine E.st ?_ | refine E.al (fun _ => ?_) | refine E.cm (h := fun w hw => hI1 w (RdIn.att h9 hw) (RdF.ofK hw)) (k := fun y => E.wy y.1.2 (fun _ => ?_)) | refine E.cm (h := fun w hw => hS1 w (RdIn.att h9 hw) (RdF.ofK hw)) (k := fun y => E.wy y.1.2 (fun _ => ?_)) | refine E.cm (h := fun w hw => hP _ w (RdIn.att h9 hw)) (k := fun y => E.wy y.2 (fun hy => ?_)) | refine E.cl (h := fun _ w hw => hPO w (RdF.ofK hw)) (k := ?_) | refine E.cm (h := fun w hw => hJ _ _ _ w (RdIn.att h9 hw) (RdF.ofK hw)) (k := fun y => E.wy y.1.2 (fun _ => ?_)) | refine E.q3 ?_ | refine E.q ?_ | refine E.qs ?_ | refine E.q2 ?_ | refine E.al (fun _ => ?_) | refine E.sbO ?_ | refine E.dq ?_ | refine E.ct ?_ | refine E.cf ?_ | refine E.cs (fun hh => ?_) (fun hh => ?_) | refine E.at_block_other rfl ?_)
    all_goals try (exfalso; simp at hh; simp [hh] at hb3; done)
    have hu0 : unl (L1.take 0) = 0 := unl_zero L1
    refine lq (fun i : Nat => i ≤ L1.length) (fun i => [(17, .pl (.int .i64 ((unl (L1.take i) : Nat) : Int))), (18, .pl (.int .i64 (i : Int)))]) (fun _ => []) (fun i => L1.length - i) 0 (Nat.zero_le _) (fun i hi => ?_)
    have hul := unl_le L1 i
    rcases Nat.lt_or_ge i L1.length with hlt | hge
    · obtain ⟨⟨pl, pa⟩, hp⟩ := get_lt hlt
      have hst := unl_step hp
      repeat' (first | refine E.st ?_ | refine E.q3 ?_ | refine E.q ?_ | refine E.qs ?_ | refine E.q2 ?_ | refine E.al (fun _ => ?_) | refine E.sbO ?_ | refine E.dq ?_ | refine E.ct ?_ | refine E.cf ?_ | refine E.cs (fun hh => ?_) (fun hh => ?_) | refine E.at_block_other rfl ?_)
      refine lq (fun s : Nat × Bool => s.1 ≤ i ∧ (s.2 = true ↔ (⟨pl, pa⟩ : Pg) ∈ L1.take s.1)) (fun s => [(19, .pl (.bool s.2)), (20, .pl (.int .i64 (s.1 : Int)))]) (fun _ => []) (fun s => i - s.1) (0, false) ⟨Nat.zero_le _, by simp⟩ (fun s hs => ?_)
      obtain ⟨k', has⟩ := s
      obtain ⟨hk', hhas⟩ := hs
      dsimp only at hk' hhas ⊢
      rcases Nat.lt_or_ge k' i with hlt2 | hge2
      · obtain ⟨⟨xl, xa⟩, hx⟩ := get_lt (xs := L1) (k := k') (by omega)
        repeat' (first | refine E.st ?_ | refine E.q3 ?_ | refine E.q ?_ | refine E.qs ?_ | refine E.q2 ?_ | refine E.al (fun _ => ?_) | refine E.sbO ?_ | refine E.dq ?_ | refine E.ct ?_ | refine E.cf ?_ | refine E.cs (fun hh => ?_) (fun hh => ?_) | refine E.at_block_other rfl ?_)
        refine rd (α := Nat × Bool) (k' + 1, _) ⟨hlt2, ?_⟩ (by dsimp only; omega)
        dsimp only
        rw [List.take_add_one, hx]
        simp only [Option.toList_some, List.mem_append, List.mem_singleton, ← hhas]
        simp
        constructor
        · rintro (h | ⟨h1, h2⟩)
          · exact Or.inl h
          · exact Or.inr ⟨h1.symm, h2.symm⟩
        · rintro (h | ⟨h1, h2⟩)
          · exact Or.inl h
          · exact Or.inr ⟨h1.symm, h2.symm⟩
      · obtain rfl : k' = i := by omega
        cases has with
        | true =>
          rw [if_pos (hhas.1 rfl)] at hst
          repeat' (first | refine E.st ?_ | refine E.q3 ?_ | refine E.q ?_ | refine E.qs ?_ | refine E.q2 ?_ | refine E.al (fun _ => ?_) | refine E.sbO ?_ | refine E.dq ?_ | refine E.ct ?_ | refine E.cf ?_ | refine E.cs (fun hh => ?_) (fun hh => ?_) | refine E.at_block_other rfl ?_)
          all_goals first
            | exact rd (k' + 1) hlt
            | (exfalso; simp at *; done)
            | trace_state
        | false =>
          rw [if_neg (fun h => by have := hhas.2 h; cases this)] at hst
          have e9 : ((unl (L1.take (k' + 1)) : Nat) : Int) = ((unl (L1.take k') : Nat) : Int) + 1 := by omega
          repeat' (first | refine E.st ?_ | refine E.q3 ?_ | refine E.q ?_ | refine E.qs ?_ | refine E.q2 ?_ | refine E.al (fun _ => ?_) | refine E.sbO ?_ | refine E.dq ?_ | refine E.ct ?_ | refine E.cf ?_ | refine E.cs (fun hh => ?_) (fun hh => ?_) | refine E.at_block_other rfl ?_)
          all_goals first
            | exact rd (k' + 1) hlt
            | (exfalso; simp at *; done)
            | trace_state
    · rw [List.take_of_length_le hge]
      repeat' (first | refine E.st ?_ | refine E.cl (h := fun _ w hw => c_wpIntsQ (xs := a2) w (by omega)) (k := ?_) | refine E.q3 ?_ | refine E.q ?_ | refine E.qs ?_ | refine E.q2 ?_ | refine E.al (fun _ => ?_) | refine E.sbO ?_ | refine E.dq ?_ | refine E.ct ?_ | refine E.cf ?_ | refine E.cs (fun hh => ?_) (fun hh => ?_) | refine E.at_block_other rfl ?_)
      all_goals first
        | (refine rb ?_; rcases f2 with f2 | f2 <;> simp [f2, f3] <;> omega)
        | trace_state
  · generalize runQ xs c ⟨pz, ps⟩ ⟨k, ⟨l, n⟩⟩ = R1 at *
    generalize pagesQ xs c ⟨k, ⟨l, n⟩⟩ = L1 at *
    obtain ⟨a1, ⟨z1, l1⟩, n1⟩ := R1
    clear hI
    dsimp only at *
    have hb2 : (!decide (PlOk ⟨pz, ps⟩) || decide ((L1.length : Int) = 0)) = true := by
      by_cases h : PlOk ⟨pz, ps⟩
      · have : L1 = [] := Classical.byContradiction (fun h2 => hb ⟨h, h2⟩)
        simp [this]
      · simp [h]
    generalize decide (PlOk ⟨pz, ps⟩) = B at *
    repeat' (first | refine E.st ?_ | refine E.al (fun _ => ?_) | refine E.cm (h := fun w hw => hI1 w (RdIn.att h9 hw) (RdF.ofK hw)) (k := fun y => E.wy y.1.2 (fun _ => ?_)) | refine E.cm (h := fun w hw => hS1 w (RdIn.att h9 hw) (RdF.ofK hw)) (k := fun y => E.wy y.1.2 (fun _ => ?_)) | refine E.cm (h := fun w hw => hP _ w (RdIn.att h9 hw)) (k := fun y => E.wy y.2 (fun hy => ?_)) | refine E.cl (h := fun _ w hw => hPO w (RdF.ofK hw)) (k := ?_) | refine E.q3 ?_ | refine E.q ?_ | refine E.qs ?_ | refine E.q2 ?_ | refine E.al (fun _ => ?_) | refine E.sbO ?_ | refine E.dq ?_ | refine E.ct ?_ | refine E.cf ?_ | refine E.cs (fun hh => ?_) (fun hh => ?_) | refine E.at_block_other rfl ?_)
    all_goals first
      | exact rb
      | (refine rb ?_; simp; done)
      | (exfalso; simp at hb2 hh; omega)
      | (exfalso; simp_all; done)
      | trace_state
end E
end Go.Proofs.YtpiiapoafmnhhaaGreat
