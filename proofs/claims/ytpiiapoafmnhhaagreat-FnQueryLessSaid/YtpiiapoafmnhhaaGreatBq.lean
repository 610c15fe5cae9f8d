/- The law of QueryLess is walked. -/
import Derived.Test.YtpiiapoafmnhhaaGreatBB
namespace Go.Proofs.YtpiiapoafmnhhaaGreat
namespace E
open Go Go.RowKit
set_option linter.unusedSimpArgs false
set_option linter.unusedVariables false
set_option maxHeartbeats 1000000
set_option maxRecDepth 10000
attribute [local irreducible] HC HL HQ HX HO At Y YV Opd Opds KnX Sl Ld Src GV RV Calls Code.wp eptr adr RdF ownF OneX HG LdC
set_option maxHeartbeats 4000000 in
theorem c_law_FnQueryLess {v v' : Value} {xs0 ys0 : List UInt8} (w : World) (hr : RdF w v xs0) (hq : RdF w v' ys0) : Calls Tryz.prog 4 #[v, v'] w (Ret (fun _ : Unit => .bool true) (fun _ => []) w) := by
  have o1 := hr.one
  have o2 := hq.one
  have m1 := hr.le
  have m2 := hq.le
  simp only [maxLen] at m1 m2
  by_cases hcode : 1048576 < xs0.length
  · refine enter (args := _) Tryz.func4 rfl Tryz.ntmps4 (by simp) ?_
    repeat' (first | refine E.st ?_ | refine E.q3 ?_ | refine E.q ?_ | refine E.qs ?_ | refine E.q2 ?_ | refine E.al (fun _ => ?_) | refine E.sbO ?_ | refine E.dq ?_ | refine E.ct ?_ | refine E.cf ?_ | refine E.cs (fun hh => ?_) (fun hh => ?_) | refine E.at_block_other rfl ?_)
    all_goals first
      | exact rb
      | (exfalso; omega)
  by_cases hmore : 1048576 < ys0.length
  · refine enter (args := _) Tryz.func4 rfl Tryz.ntmps4 (by simp) ?_
    repeat' (first | refine E.st ?_ | refine E.q3 ?_ | refine E.q ?_ | refine E.qs ?_ | refine E.q2 ?_ | refine E.al (fun _ => ?_) | refine E.sbO ?_ | refine E.dq ?_ | refine E.ct ?_ | refine E.cf ?_ | refine E.cs (fun hh => ?_) (fun hh => ?_) | refine E.at_block_other rfl ?_)
    all_goals first
      | exact rb
      | (exfalso; omega)
  have hc0 : 0 ≤ (ys0.length : Int).tmod 8 ∧ (ys0.length : Int).tmod 8 ≤ 7 := by
    rw [Int.tmod_eq_emod_of_nonneg (by omega)]; omega
  refine enter (args := _) Tryz.func4 rfl Tryz.ntmps4 (by simp) ?_
  repeat' (first | refine E.st ?_ | refine E.al (fun _ => ?_) | refine E.cm (h := fun w hw => c_DrawQueryAsk w (hr.now hw)) (k := fun z => E.wy z.2 (fun hz => E.wy (cut_one' (n := z.1.2.1.ns.length) (b := z.1.2.2.1) z.1.1.1.2) (fun h7 => E.wy z.1.1.2.2 (fun h8 => E.wy (cut_rd (List.mem_singleton.2 rfl) z.2.2.2 : RdIn w [ownF 32 z.1.1.1.1 z.1.2.1.ns] (cutV z.1.2.2.1 z.1.1.1.1 z.1.2.1.ns.length) (cutN z.1.2.2.1 z.1.2.1.ns)) (fun h9 => ?_))))) | refine E.q3 ?_ | refine E.q ?_ | refine E.qs ?_ | refine E.q2 ?_ | refine E.sbO ?_ | refine E.dq ?_ | refine E.ct ?_ | refine E.cf ?_ | refine E.cs (fun hh => ?_) (fun hh => ?_) | refine E.at_block_other rfl ?_)
  obtain ⟨⟨⟨⟨vN, hvN⟩, ⟨vE, hvE⟩⟩, ⟨ms, es⟩, b, ⟨k, ⟨l, n⟩⟩⟩, hz0⟩ := z
  dsimp only at *
  have hns : (cutN b ms).length ≤ 1010 := by
    unfold cutN
    split
    · rw [List.length_drop]; omega
    · omega
  generalize cutV b vN ms.length = vC at *
  generalize cutN b ms = ns at *
  have hal := ask_lenQ ⟨ns, es⟩ ⟨k, ⟨l, n⟩⟩
  have hi : ∀ w', RdF w' vC ns → RdF w' vE es → Calls Tryz.prog 25 #[.agg #[vC, vE], .agg #[.int .i64 k, .int .i64 l, .int .i64 n]] w' (Ret (fun z : V1 => z.1) (fun z => [ownF 3 z.1 (askL ⟨ns, es⟩ ⟨k, ⟨l, n⟩⟩)]) w') := fun w' h1 h2 => c_i_AskQ (g := ⟨ns, es⟩) w' h1 h2
  have hs : ∀ w', RdF w' vC ns → RdF w' vE es → Calls Tryz.prog 27 #[.agg #[vC, vE], .agg #[.int .i64 k, .int .i64 l, .int .i64 n]] w' (Ret (fun z : V1 => z.1) (fun z => [ownF 3 z.1 (askL ⟨ns, es⟩ ⟨k, ⟨l, n⟩⟩)]) w') := fun w' h1 h2 => c_s_QueryAsk (g := ⟨ns, es⟩) w' h1 h2
  have hgk : ∀ w, RdF w vC ns → RdF w vE es → Calls Tryz.prog 28 #[.agg #[vC, vE]] w (Ret (fun _ : Unit => .bool (gok ns es)) (fun _ => []) w) := fun w a b => c_s_GraphOk w a b
  generalize (ys0.length : Int).tmod 8 = c at *
  by_cases hb : gok ns es = true ∧ k = 1
  · obtain ⟨hb1, hb2⟩ := hb
    have hg : (⟨ns, es⟩ : Gr).ok := Gr.ok_iff.2 hb1
    obtain ⟨f1, f2, f3⟩ := run_less (g := ⟨ns, es⟩) (c := c) (k := k) (n := ⟨l, n⟩) hg hb2
    rw [hb1] at hgk
    have hso := storeL_small (g := ⟨ns, es⟩) hg
    have hsl : (storeL ⟨ns, es⟩).length ≤ 2000000 := by have := hso.1; omega
    have hss : ∀ s ∈ storeL ⟨ns, es⟩, s.b.size ≤ 4000000 := fun s h => by have := hso.2 s h; omega
    have hOf : ∀ w, RdF w vC ns → RdF w vE es → Calls Tryz.prog 30 #[.agg #[vC, vE]] w (Ret (fun s : Sv => .slice s.a s.n s.c) (fun s => [ownF 65 (.slice s.a s.n s.c) (storeL ⟨ns, es⟩)]) w) := fun w a b => by
      have := c_i_StoreOf (g := ⟨ns, es⟩) w a b
      rwa [storeI_ok hg] at this
    have hP : ∀ u' w, RdF w u' (storeL ⟨ns, es⟩) → Calls Tryz.prog 18 #[u', .int .i64 c, .agg #[.int .i64 k, .int .i64 l, .int .i64 n]] w (Ret (fun z : V1 => z.1) (fun z => [ownF 63 z.1 (pagesQ (storeL ⟨ns, es⟩) c ⟨k, ⟨l, n⟩⟩)]) w) := fun u' w a => c_i_QueryPages w hss hsl a
    have hQ : ∀ u' w, RdF w u' (storeL ⟨ns, es⟩) → Calls Tryz.prog 18 #[u', .int .i64 7, .agg #[.int .i64 k, .int .i64 l, .int .i64 n]] w (Ret (fun z : V1 => z.1) (fun z => [ownF 63 z.1 (pagesQ (storeL ⟨ns, es⟩) 7 ⟨k, ⟨l, n⟩⟩)]) w) := fun u' w a => c_i_QueryPages w hss hsl a
    have hVw : ∀ w, RdF w vC ns → RdF w vE es → Calls Tryz.prog 29 #[.agg #[vC, vE], .int .i64 c] w (Ret (fun z : V1 × V1 => .agg #[z.1.1, z.2.1]) (fun z => [ownF 32 z.1.1 (view ⟨ns, es⟩ c).ns, ownF 84 z.2.1 (view ⟨ns, es⟩ c).es]) w) := fun w a b => c_i_GraphView (g := ⟨ns, es⟩) w hg a b
    have hiv : ∀ u u' w', RdF w' u (view ⟨ns, es⟩ c).ns → RdF w' u' (view ⟨ns, es⟩ c).es → Calls Tryz.prog 25 #[.agg #[u, u'], .agg #[.int .i64 k, .int .i64 l, .int .i64 n]] w' (Ret (fun z : V1 => z.1) (fun z => [ownF 3 z.1 (askL (view ⟨ns, es⟩ c) ⟨k, ⟨l, n⟩⟩)]) w') := fun u u' w' h1 h2 => c_i_AskQ (g := view ⟨ns, es⟩ c) w' h1 h2
    have hbl := ask_lenQ (view ⟨ns, es⟩ c) ⟨k, ⟨l, n⟩⟩
    have g5 := pagesQ_lenB (storeL ⟨ns, es⟩) 7 ⟨k, ⟨l, n⟩⟩
    generalize askL (view ⟨ns, es⟩ c) ⟨k, ⟨l, n⟩⟩ = B at *
    generalize view ⟨ns, es⟩ c = vw at *
    generalize pagesQ (storeL ⟨ns, es⟩) 7 ⟨k, ⟨l, n⟩⟩ = L7 at *
    generalize pagesQ (storeL ⟨ns, es⟩) c ⟨k, ⟨l, n⟩⟩ = L1 at *
    generalize askL ⟨ns, es⟩ ⟨k, ⟨l, n⟩⟩ = A at *
    generalize storeL ⟨ns, es⟩ = xs at *
    repeat' (first | refine E.st ?_ | refine E.dxa (i := 8) [0, 1, 3, 2, 4, 5] ?_ | refine E.al (fun _ => ?_) | refine E.cm (h := fun w hw => hi w (RdIn.att h9 hw) (RdF.ofK hw)) (k := fun za => E.wy za.2 (fun ha => ?_)) | refine E.cm (h := fun w hw => hs w (RdIn.att h9 hw) (RdF.ofK hw)) (k := fun za => E.wy za.2 (fun ha => ?_)) | refine E.cl (h := fun _ w hw => c_wpIntsQ (xs := A) w (by omega)) (k := ?_) | refine E.cl (h := fun _ w hw => hgk w (RdIn.att h9 hw) (RdF.ofK hw)) (k := ?_) | refine E.cm (h := fun w hw => hVw w (RdIn.att h9 hw) (RdF.ofK hw)) (k := fun y => E.wy y.1.2 (fun _ => E.wy y.2.2 (fun _ => ?_))) | refine E.cm (h := fun w hw => hiv _ _ w (RdF.ofK hw) (RdF.ofK hw)) (k := fun zb => E.wy zb.2 (fun _ => ?_)) | refine E.q3 ?_ | refine E.q ?_ | refine E.qs ?_ | refine E.q2 ?_ | refine E.sbO ?_ | refine E.dq ?_ | refine E.ct ?_ | refine E.cf ?_ | refine E.cs (fun hh => ?_) (fun hh => ?_) | refine E.at_block_other rfl ?_)
    all_goals try (exfalso; simp at hh; omega)
    refine lq (fun i : Nat => i ≤ B.length) (fun i => [(10, .pl (.int .i64 (i : Int)))]) (fun _ => []) (fun i => B.length - i) 0 (Nat.zero_le _) (fun i hi => ?_)
    rcases Nat.lt_or_ge i B.length with hlt | hge
    · obtain ⟨x, hp⟩ := get_lt hlt
      obtain ⟨j0, hj⟩ := List.getElem?_of_mem (f1 _ (List.mem_of_getElem? hp))
      have hj0 := (List.getElem?_eq_some_iff.1 hj).1
      repeat' (first | refine E.st ?_ | refine E.q3 ?_ | refine E.q ?_ | refine E.qs ?_ | refine E.q2 ?_ | refine E.al (fun _ => ?_) | refine E.sbO ?_ | refine E.dq ?_ | refine E.ct ?_ | refine E.cf ?_ | refine E.cs (fun hh => ?_) (fun hh => ?_) | refine E.at_block_other rfl ?_)
      refine lq (fun s : Nat × Bool => s.1 ≤ A.length ∧ (j0 < s.1 → s.2 = true)) (fun s => [(11, .pl (.bool s.2)), (12, .pl (.int .i64 (s.1 : Int)))]) (fun _ => []) (fun s => A.length - s.1) (0, false) ⟨Nat.zero_le _, fun h => absurd h (Nat.not_lt_zero _)⟩ (fun s hs => ?_)
      obtain ⟨k', has⟩ := s
      obtain ⟨hk', hhas⟩ := hs
      dsimp only at hk' hhas ⊢
      rcases Nat.lt_or_ge k' A.length with hlt2 | hge2
      · obtain ⟨y, hx⟩ := get_lt hlt2
        repeat' (first | refine E.st ?_ | refine E.q3 ?_ | refine E.q ?_ | refine E.qs ?_ | refine E.q2 ?_ | refine E.al (fun _ => ?_) | refine E.sbO ?_ | refine E.dq ?_ | refine E.ct ?_ | refine E.cf ?_ | refine E.cs (fun hh => ?_) (fun hh => ?_) | refine E.at_block_other rfl ?_)
        refine rd (α := Nat × Bool) (k' + 1, _) ⟨hlt2, fun h => ?_⟩ (by dsimp only; omega)
        rcases Nat.lt_or_ge j0 k' with h1 | h1
        · dsimp only
          rw [hhas h1]
          rfl
        · have e' : j0 = k' := by dsimp only at h; omega
          subst e'
          rw [hx] at hj
          injection hj with hj
          subst hj
          simp
      · obtain rfl : has = true := hhas (by omega)
        repeat' (first | refine E.st ?_ | refine E.q3 ?_ | refine E.q ?_ | refine E.qs ?_ | refine E.q2 ?_ | refine E.al (fun _ => ?_) | refine E.sbO ?_ | refine E.dq ?_ | refine E.ct ?_ | refine E.cf ?_ | refine E.cs (fun hh => ?_) (fun hh => ?_) | refine E.at_block_other rfl ?_)
        all_goals first
          | exact rd (i + 1) hlt
          | (exfalso; simp at *; done)
    · have hd9 : decide ((B.length : Int) ≤ (A.length : Int)) = true := decide_eq_true (Int.ofNat_le.2 f2)
      repeat' (first | refine E.st ?_ | rw [hd9] | refine E.dxa (i := 20) [0, 1, 2, 3, 4, 5, 6, 7, 8, 11, 12, 9, 10, 13, 14, 15, 16, 17] ?_ | refine E.br2 (i := 10) (j := 13) ?_ ?_ | refine E.br2 (i := 10) (j := 14) ?_ ?_ | refine E.qbg ?_ | refine E.cm (h := fun w hw => hOf w (RdIn.att h9 hw) (RdF.ofK hw)) (k := fun y => ?_) | refine E.cmg (h := fun w hw => hP _ w (RdF.ofK hw)) (k := fun y => E.wy y.2 (fun _ => ?_)) (hB := by first | exact fun _ => KB.l | exact fun _ => KB.x (Or.inr ksq) | exact fun _ => KB.y (Or.inr ksq)) | refine E.cmg (h := fun w hw => hQ _ w (RdF.ofK hw)) (k := fun y => E.wy y.2 (fun _ => ?_)) (hB := by first | exact fun _ => KB.l | exact fun _ => KB.x (Or.inr ksq) | exact fun _ => KB.y (Or.inr ksq)) | refine E.q3 ?_ | refine E.q ?_ | refine E.qs ?_ | refine E.q2 ?_ | refine E.al (fun _ => ?_) | refine E.sbO ?_ | refine E.dq ?_ | refine E.ct ?_ | refine E.cf ?_ | refine E.cs (fun hh => ?_) (fun hh => ?_) | refine E.at_block_other rfl ?_)
      all_goals first
        | exact rb
        | (refine rb ?_; simp; omega)
  · generalize askL ⟨ns, es⟩ ⟨k, ⟨l, n⟩⟩ = A at *
    generalize gok ns es = b1 at *
    repeat' (first | refine E.st ?_ | refine E.al (fun _ => ?_) | refine E.cm (h := fun w hw => hi w (RdIn.att h9 hw) (RdF.ofK hw)) (k := fun za => E.wy za.2 (fun ha => ?_)) | refine E.cm (h := fun w hw => hs w (RdIn.att h9 hw) (RdF.ofK hw)) (k := fun za => E.wy za.2 (fun ha => ?_)) | refine E.cl (h := fun _ w hw => c_wpIntsQ (xs := A) w (by omega)) (k := ?_) | refine E.cl (h := fun _ w hw => hgk w (RdIn.att h9 hw) (RdF.ofK hw)) (k := ?_) | refine E.q3 ?_ | refine E.q ?_ | refine E.qs ?_ | refine E.q2 ?_ | refine E.sbO ?_ | refine E.dq ?_ | refine E.ct ?_ | refine E.cf ?_ | refine E.cs (fun hh => ?_) (fun hh => ?_) | refine E.at_block_other rfl ?_)
    all_goals first
      | exact rb
      | (exfalso; revert hb hh; cases b1 <;> simp; done)
      | (exfalso; revert hb hh; cases b1 <;> simp <;> omega)
end E
end Go.Proofs.YtpiiapoafmnhhaaGreat
