/- The law of QueryHead is walked. -/
import Derived.Test.YtpiiapoafmnhhaaGreatBB
namespace Go.Proofs.YtpiiapoafmnhhaaGreat
namespace E
open Go Go.RowKit
set_option linter.unusedSimpArgs false
set_option linter.unusedVariables false
set_option maxHeartbeats 1000000
set_option maxRecDepth 10000
attribute [local irreducible] HC HL HQ HX HO At Y YV Opd Opds KnX Sl Ld Src GV RV Calls Code.wp eptr adr RdF ownF OneX HG LdC
set_option maxHeartbeats 4000000 in
theorem c_law_FnQueryHead {v : Value} {xs0 : List UInt8} (w : World) (hr : RdF w v xs0) : Calls Tryz.prog 5 #[v] w (Ret (fun _ : Unit => .bool true) (fun _ => []) w) := by
  have o1 := hr.one
  by_cases hcode : 1048576 < xs0.length
  · refine enter (args := _) Tryz.func5 rfl Tryz.ntmps5 (by simp) ?_
    repeat' (first | refine E.st ?_ | refine E.q3 ?_ | refine E.q ?_ | refine E.qs ?_ | refine E.q2 ?_ | refine E.q4 ?_ | refine E.tr ?_ | refine E.ap (fun _ _ => ?_) | refine E.b1 (fun _ _ => ?_) | refine E.b0 (fun _ _ => ?_) | refine E.bsn (fun _ _ => ?_) | refine E.mk (fun _ _ => ?_) | refine E.bxO (fun _ => ?_) | refine E.al (fun _ => ?_) | refine E.sbO ?_ | refine E.dq ?_ | refine E.ct ?_ | refine E.cf ?_ | refine E.cs (fun hh => ?_) (fun hh => ?_) | refine E.at_block_other rfl ?_)
    all_goals first
      | exact rb
      | (exfalso; omega)
  refine enter (args := _) Tryz.func5 rfl Tryz.ntmps5 (by simp) ?_
  repeat' (first | refine E.st ?_ | refine E.al (fun _ => ?_) | refine E.cm (h := fun w hw => c_DrawQueryPages w (hr.now hw)) (k := fun z => E.wy z.2 (fun hz => E.wy (cut_one' (n := z.1.1.2.1.length) (b := z.1.1.2.2) z.1.1.1.2) (fun h7 => E.wy (cutS_rd (List.mem_singleton.2 rfl) z.2.2 : RdIn w [ownF 65 z.1.1.1.1 z.1.1.2.1] (cutV z.1.1.2.2 z.1.1.1.1 z.1.1.2.1.length) (cutS z.1.1.2.2 z.1.1.2.1)) (fun h9 => ?_)))) | refine E.q3 ?_ | refine E.q ?_ | refine E.qs ?_ | refine E.q2 ?_ | refine E.q4 ?_ | refine E.tr ?_ | refine E.ap (fun _ _ => ?_) | refine E.b1 (fun _ _ => ?_) | refine E.b0 (fun _ _ => ?_) | refine E.bsn (fun _ _ => ?_) | refine E.mk (fun _ _ => ?_) | refine E.bxO (fun _ => ?_) | refine E.al (fun _ => ?_) | refine E.sbO ?_ | refine E.dq ?_ | refine E.ct ?_ | refine E.cf ?_ | refine E.cs (fun hh => ?_) (fun hh => ?_) | refine E.at_block_other rfl ?_)
  obtain ⟨⟨⟨⟨v0, hv0⟩, ys, b⟩, c, ⟨k, ⟨l, n⟩⟩⟩, hz1, hz2⟩ := z
  dsimp only at *
  obtain ⟨hl, hs⟩ := cutS_small b hz1
  generalize cutV b v0 ys.length = u at *
  generalize cutS b ys = xs at *
  have hP : ∀ u' w, RdF w u' xs → Calls Tryz.prog 18 #[u', .int .i64 c, .agg #[.int .i64 k, .int .i64 l, .int .i64 n]] w (Ret (fun z : V1 => z.1) (fun z => [ownF 63 z.1 (pagesQ xs c ⟨k, ⟨l, n⟩⟩)]) w) := fun u' w a => c_i_QueryPages w hs hl a
  have hQ : ∀ u' w, RdF w u' xs → Calls Tryz.prog 15 #[u', .int .i64 c, .agg #[.int .i64 k, .int .i64 l, .int .i64 n]] w (Ret (fun z : V1 => z.1) (fun z => [ownF 63 z.1 (pagesQ xs c ⟨k, ⟨l, n⟩⟩)]) w) := fun u' w a => c_s_QueryPages w hs hl a
  have hR : ∀ w, RdF w u xs → Calls Tryz.prog 32 #[u] w (Ret (fun z : V1 × V1 => .tuple #[.agg #[z.1.1, z.2.1], .bool (readL xs).isSome]) (fun z => [ownF 32 z.1.1 (grO (readL xs)).ns, ownF 84 z.2.1 (grO (readL xs)).es]) w) := fun w a => c_i_StoreRead w hs a
  have g5 := pagesQ_lenB xs c ⟨k, ⟨l, n⟩⟩
  have hLb : ∀ w, Calls Tryz.prog 34 #[.int .i64 c] w (Ret (fun _ : Unit => .bool (lok c)) (fun _ => []) w) := fun w => c_i_LabelOk w
  have hQb : ∀ w, Calls Tryz.prog 35 #[.agg #[.int .i64 k, .int .i64 l, .int .i64 n]] w (Ret (fun _ : Unit => .bool (qok ⟨k, ⟨l, n⟩⟩)) (fun _ => []) w) := fun w => c_i_QueryOk w
  by_cases hb : (readL xs).isSome = true ∧ lok c = true ∧ qok ⟨k, ⟨l, n⟩⟩ = true
  · obtain ⟨e0, e1, e2⟩ := hb
    obtain ⟨g0, e⟩ := Option.isSome_iff_exists.1 e0
    obtain ⟨f1, f2⟩ := run_head e e1 e2
    rw [e0] at hR
    rw [e1] at hLb
    rw [e2] at hQb
    have hV : ∀ w, RdF w u xs → Calls Tryz.prog 36 #[u, .int .i64 c] w (Ret (fun s : Sv => .slice s.a s.n s.c) (fun s => [ownF 65 (.slice s.a s.n s.c) (viewS xs c)]) w) := fun w a => c_i_StoreView w a hl
    have hvl : (viewS xs c).length ≤ 2000000 := Nat.le_trans (List.length_filter_le _ _) hl
    generalize pagesQ xs c ⟨k, ⟨l, n⟩⟩ = L1 at *
    generalize viewS xs c = vs at *
    repeat' (first | refine E.st ?_ | refine E.al (fun _ => ?_) | refine E.cm (h := fun w hw => hP _ w (RdIn.att h9 hw)) (k := fun y => E.wy y.2 (fun hy => ?_)) | refine E.cm (h := fun w hw => hQ _ w (RdIn.att h9 hw)) (k := fun y' => E.wy y'.2 (fun _ => ?_)) | refine E.cl (h := fun _ w hw => c_wpPages (xs := L1) w (by omega)) (k := ?_) | refine E.cm (h := fun w hw => hR w (RdIn.att h9 hw)) (k := fun y => E.wy y.1.2 (fun _ => E.wy y.2.2 (fun _ => ?_))) | refine E.cl (h := fun _ w _ => hLb w) (k := ?_) | refine E.cl (h := fun _ w _ => hQb w) (k := ?_) | refine E.cm (h := fun w hw => hV w (RdIn.att h9 hw)) (k := fun zv => ?_) | refine E.q3 ?_ | refine E.q ?_ | refine E.qs ?_ | refine E.q2 ?_ | refine E.q4 ?_ | refine E.tr ?_ | refine E.ap (fun _ _ => ?_) | refine E.b1 (fun _ _ => ?_) | refine E.b0 (fun _ _ => ?_) | refine E.bsn (fun _ _ => ?_) | refine E.mk (fun _ _ => ?_) | refine E.bxO (fun _ => ?_) | refine E.al (fun _ => ?_) | refine E.sbO ?_ | refine E.dq ?_ | refine E.ct ?_ | refine E.cf ?_ | refine E.cs (fun hh => ?_) (fun hh => ?_) | refine E.at_block_other rfl ?_)
    all_goals try (exfalso; simp at *; done)
    refine lq (fun i : Nat => i ≤ vs.length) (fun i => [(10, .pl (.int .i64 (i : Int)))]) (fun _ => []) (fun i => vs.length - i) 0 (Nat.zero_le _) (fun i hi => ?_)
    rcases Nat.lt_or_ge i vs.length with hlt | hge
    · obtain ⟨⟨sl, sb⟩, hp⟩ := get_lt hlt
      obtain ⟨j0, hj⟩ := List.getElem?_of_mem (f1 _ (List.mem_of_getElem? hp))
      have hj0 := (List.getElem?_eq_some_iff.1 hj).1
      repeat' (first | refine E.st ?_ | refine E.q3 ?_ | refine E.q ?_ | refine E.qs ?_ | refine E.q2 ?_ | refine E.q4 ?_ | refine E.tr ?_ | refine E.ap (fun _ _ => ?_) | refine E.b1 (fun _ _ => ?_) | refine E.b0 (fun _ _ => ?_) | refine E.bsn (fun _ _ => ?_) | refine E.mk (fun _ _ => ?_) | refine E.bxO (fun _ => ?_) | refine E.al (fun _ => ?_) | refine E.sbO ?_ | refine E.dq ?_ | refine E.ct ?_ | refine E.cf ?_ | refine E.cs (fun hh => ?_) (fun hh => ?_) | refine E.at_block_other rfl ?_)
      refine lq (fun s : Nat × Bool => s.1 ≤ L1.length ∧ (j0 < s.1 → s.2 = true)) (fun s => [(11, .pl (.bool s.2)), (12, .pl (.int .i64 (s.1 : Int)))]) (fun _ => []) (fun s => L1.length - s.1) (0, false) ⟨Nat.zero_le _, fun h => absurd h (Nat.not_lt_zero _)⟩ (fun s hs => ?_)
      obtain ⟨k', has⟩ := s
      obtain ⟨hk', hhas⟩ := hs
      dsimp only at hk' hhas ⊢
      rcases Nat.lt_or_ge k' L1.length with hlt2 | hge2
      · obtain ⟨⟨xl, xa⟩, hx⟩ := get_lt hlt2
        repeat' (first | refine E.st ?_ | refine E.q3 ?_ | refine E.q ?_ | refine E.qs ?_ | refine E.q2 ?_ | refine E.q4 ?_ | refine E.tr ?_ | refine E.ap (fun _ _ => ?_) | refine E.b1 (fun _ _ => ?_) | refine E.b0 (fun _ _ => ?_) | refine E.bsn (fun _ _ => ?_) | refine E.mk (fun _ _ => ?_) | refine E.bxO (fun _ => ?_) | refine E.al (fun _ => ?_) | refine E.sbO ?_ | refine E.dq ?_ | refine E.ct ?_ | refine E.cf ?_ | refine E.cs (fun hh => ?_) (fun hh => ?_) | refine E.at_block_other rfl ?_)
        refine rd (α := Nat × Bool) (k' + 1, _) ⟨hlt2, fun h => ?_⟩ (by dsimp only; omega)
        rcases Nat.lt_or_ge j0 k' with h1 | h1
        · dsimp only
          rw [hhas h1]
          rfl
        · have e' : j0 = k' := by dsimp only at h; omega
          subst e'
          rw [hx] at hj
          injection hj with hj
          injection hj with hj1 hj2
          subst hj1 hj2
          simp
      · obtain rfl : has = true := hhas (by omega)
        repeat' (first | refine E.st ?_ | refine E.q3 ?_ | refine E.q ?_ | refine E.qs ?_ | refine E.q2 ?_ | refine E.q4 ?_ | refine E.tr ?_ | refine E.ap (fun _ _ => ?_) | refine E.b1 (fun _ _ => ?_) | refine E.b0 (fun _ _ => ?_) | refine E.bsn (fun _ _ => ?_) | refine E.mk (fun _ _ => ?_) | refine E.bxO (fun _ => ?_) | refine E.al (fun _ => ?_) | refine E.sbO ?_ | refine E.dq ?_ | refine E.ct ?_ | refine E.cf ?_ | refine E.cs (fun hh => ?_) (fun hh => ?_) | refine E.at_block_other rfl ?_)
        all_goals first
          | exact rd (i + 1) hlt
          | (exfalso; simp at *; done)
          | trace_state
    · repeat' (first | refine E.st ?_ | refine E.q3 ?_ | refine E.q ?_ | refine E.qs ?_ | refine E.q2 ?_ | refine E.q4 ?_ | refine E.tr ?_ | refine E.ap (fun _ _ => ?_) | refine E.b1 (fun _ _ => ?_) | refine E.b0 (fun _ _ => ?_) | refine E.bsn (fun _ _ => ?_) | refine E.mk (fun _ _ => ?_) | refine E.bxO (fun _ => ?_) | refine E.al (fun _ => ?_) | refine E.sbO ?_ | refine E.dq ?_ | refine E.ct ?_ | refine E.cf ?_ | refine E.cs (fun hh => ?_) (fun hh => ?_) | refine E.at_block_other rfl ?_)
      refine rb ?_
      simp only [decide_eq_decide, beq_iff_eq, decide_eq_true_eq]
      omega
  · generalize (readL xs).isSome = b1 at *
    generalize lok c = b2 at *
    generalize qok ⟨k, ⟨l, n⟩⟩ = b3 at *
    generalize pagesQ xs c ⟨k, ⟨l, n⟩⟩ = L1 at *
    repeat' (first | refine E.st ?_ | refine E.al (fun _ => ?_) | refine E.cm (h := fun w hw => hP _ w (RdIn.att h9 hw)) (k := fun y => E.wy y.2 (fun hy => ?_)) | refine E.cm (h := fun w hw => hQ _ w (RdIn.att h9 hw)) (k := fun y' => E.wy y'.2 (fun _ => ?_)) | refine E.cl (h := fun _ w hw => c_wpPages (xs := L1) w (by omega)) (k := ?_) | refine E.cm (h := fun w hw => hR w (RdIn.att h9 hw)) (k := fun y => E.wy y.1.2 (fun _ => E.wy y.2.2 (fun _ => ?_))) | refine E.cl (h := fun _ w _ => hLb w) (k := ?_) | refine E.cl (h := fun _ w _ => hQb w) (k := ?_) | refine E.q3 ?_ | refine E.q ?_ | refine E.qs ?_ | refine E.q2 ?_ | refine E.q4 ?_ | refine E.tr ?_ | refine E.ap (fun _ _ => ?_) | refine E.b1 (fun _ _ => ?_) | refine E.b0 (fun _ _ => ?_) | refine E.bsn (fun _ _ => ?_) | refine E.mk (fun _ _ => ?_) | refine E.bxO (fun _ => ?_) | refine E.al (fun _ => ?_) | refine E.sbO ?_ | refine E.dq ?_ | refine E.ct ?_ | refine E.cf ?_ | refine E.cs (fun hh => ?_) (fun hh => ?_) | refine E.at_block_other rfl ?_)
    all_goals first
      | exact rb
      | (exfalso; revert hb hh; cases b1 <;> cases b2 <;> cases b3 <;> simp; done)
      | trace_state
end E
end Go.Proofs.YtpiiapoafmnhhaaGreat
