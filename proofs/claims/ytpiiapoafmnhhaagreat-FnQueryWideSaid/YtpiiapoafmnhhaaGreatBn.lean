/- The law of QueryWide is walked. -/
import Derived.Test.YtpiiapoafmnhhaaGreatBB
namespace Go.Proofs.YtpiiapoafmnhhaaGreat
namespace E
open Go Go.RowKit
set_option linter.unusedSimpArgs false
set_option linter.unusedVariables false
set_option maxHeartbeats 1000000
set_option maxRecDepth 10000
attribute [local irreducible] HC HL HQ HX HO At Y YV Opd Opds KnX Sl Ld Src GV RV Calls Code.wp eptr adr RdF ownF OneX HG LdC
set_option maxHeartbeats 4000000 in
theorem c_law_FnQueryWide {v : Value} {xs0 : List UInt8} (w : World) (hr : RdF w v xs0) : Calls Tryz.prog 6 #[v] w (Ret (fun _ : Unit => .bool true) (fun _ => []) w) := by
  have o1 := hr.one
  by_cases hcode : 1048576 < xs0.length
  · refine enter (args := _) Tryz.func6 rfl Tryz.ntmps6 (by simp) ?_
    repeat' (first | refine E.st ?_ | refine E.q3 ?_ | refine E.q ?_ | refine E.qs ?_ | refine E.q2 ?_ | refine E.q4 ?_ | refine E.tr ?_ | refine E.ap (fun _ _ => ?_) | refine E.b1 (fun _ _ => ?_) | refine E.b0 (fun _ _ => ?_) | refine E.bsn (fun _ _ => ?_) | refine E.mk (fun _ _ => ?_) | refine E.bxO (fun _ => ?_) | refine E.al (fun _ => ?_) | refine E.sbO ?_ | refine E.dq ?_ | refine E.ct ?_ | refine E.cf ?_ | refine E.cs (fun hh => ?_) (fun hh => ?_) | refine E.at_block_other rfl ?_)
    all_goals first
      | exact rb
      | (exfalso; omega)
  refine enter (args := _) Tryz.func6 rfl Tryz.ntmps6 (by simp) ?_
  repeat' (first | refine E.st ?_ | refine E.al (fun _ => ?_) | refine E.cm (h := fun w hw => c_DrawQueryAsk w (hr.now hw)) (k := fun z => E.wy z.2 (fun hz => E.wy (cut_one' (n := z.1.2.1.ns.length) (b := z.1.2.2.1) z.1.1.1.2) (fun h7 => E.wy z.1.1.2.2 (fun h8 => E.wy (cut_rd (List.mem_singleton.2 rfl) z.2.2.2 : RdIn w [ownF 32 z.1.1.1.1 z.1.2.1.ns] (cutV z.1.2.2.1 z.1.1.1.1 z.1.2.1.ns.length) (cutN z.1.2.2.1 z.1.2.1.ns)) (fun h9 => ?_))))) | refine E.q3 ?_ | refine E.q ?_ | refine E.qs ?_ | refine E.q2 ?_ | refine E.q4 ?_ | refine E.tr ?_ | refine E.ap (fun _ _ => ?_) | refine E.b1 (fun _ _ => ?_) | refine E.b0 (fun _ _ => ?_) | refine E.bsn (fun _ _ => ?_) | refine E.mk (fun _ _ => ?_) | refine E.bxO (fun _ => ?_) | refine E.al (fun _ => ?_) | refine E.sbO ?_ | refine E.dq ?_ | refine E.ct ?_ | refine E.cf ?_ | refine E.cs (fun hh => ?_) (fun hh => ?_) | refine E.at_block_other rfl ?_)
  obtain ⟨⟨⟨⟨vN, hvN⟩, ⟨vE, hvE⟩⟩, ⟨ms, es⟩, b, ⟨k, ⟨l, n⟩⟩⟩, hz0⟩ := z
  dsimp only at *
  have hns : (cutN b ms).length ≤ 1010 := by
    unfold cutN
    split
    · rw [List.length_drop]; omega
    · omega
  generalize cutV b vN ms.length = vC at *
  generalize cutN b ms = ns at *
  have hal := ask_lenQ ⟨ns, es⟩ ⟨k, ⟨l, n⟩⟩
  have hi : ∀ w', RdF w' vC ns → RdF w' vE es → Calls Tryz.prog 25 #[.agg #[vC, vE], .agg #[.int .i64 k, .int .i64 l, .int .i64 n]] w' (Ret (fun z : V1 => z.1) (fun z => [ownF 3 z.1 (askL ⟨ns, es⟩ ⟨k, ⟨l, n⟩⟩)]) w') := fun w' h1 h2 => c_i_AskQ (g := ⟨ns, es⟩) w' h1 h2
  have hs : ∀ w', RdF w' vC ns → RdF w' vE es → Calls Tryz.prog 27 #[.agg #[vC, vE], .agg #[.int .i64 k, .int .i64 l, .int .i64 n]] w' (Ret (fun z : V1 => z.1) (fun z => [ownF 3 z.1 (askL ⟨ns, es⟩ ⟨k, ⟨l, n⟩⟩)]) w') := fun w' h1 h2 => c_s_QueryAsk (g := ⟨ns, es⟩) w' h1 h2
  have hgk : ∀ w, RdF w vC ns → RdF w vE es → Calls Tryz.prog 28 #[.agg #[vC, vE]] w (Ret (fun _ : Unit => .bool (gok ns es)) (fun _ => []) w) := fun w a b => c_s_GraphOk w a b
  have hqk : ∀ w, Calls Tryz.prog 37 #[.agg #[.int .i64 k, .int .i64 l, .int .i64 n]] w (Ret (fun _ : Unit => .bool (qok ⟨k, ⟨l, n⟩⟩)) (fun _ => []) w) := fun w => c_s_QueryOk w
  by_cases hb : gok ns es = true ∧ qok ⟨k, ⟨l, n⟩⟩ = true
  · obtain ⟨hb1, hb2⟩ := hb
    have hg : (⟨ns, es⟩ : Gr).ok := Gr.ok_iff.2 hb1
    obtain ⟨f1, f2⟩ := run_wide hg hb2
    rw [hb1] at hgk
    rw [hb2] at hqk
    have hso := storeL_small (g := ⟨ns, es⟩) hg
    have hsl : (storeL ⟨ns, es⟩).length ≤ 2000000 := by have := hso.1; omega
    have hss : ∀ s ∈ storeL ⟨ns, es⟩, s.b.size ≤ 4000000 := fun s h => by have := hso.2 s h; omega
    have hOf : ∀ w, RdF w vC ns → RdF w vE es → Calls Tryz.prog 30 #[.agg #[vC, vE]] w (Ret (fun s : Sv => .slice s.a s.n s.c) (fun s => [ownF 65 (.slice s.a s.n s.c) (storeL ⟨ns, es⟩)]) w) := fun w a b => by
      have := c_i_StoreOf (g := ⟨ns, es⟩) w a b
      rwa [storeI_ok hg] at this
    have hI : ∀ u' w, RdF w u' (storeL ⟨ns, es⟩) → Calls Tryz.prog 38 #[u', .int .i64 7, .agg #[.int .i64 0, .slice none 0 0], .agg #[.int .i64 k, .int .i64 l, .int .i64 n]] w (Ret (fun y : V1 × Sv => .tuple #[y.1.1, .agg #[.int .i64 (runQ (storeL ⟨ns, es⟩) 7 ⟨0, []⟩ ⟨k, ⟨l, n⟩⟩).2.1.z, .slice y.2.a y.2.n y.2.c], .int .i64 (runQ (storeL ⟨ns, es⟩) 7 ⟨0, []⟩ ⟨k, ⟨l, n⟩⟩).2.2]) (fun y => [ownF 3 y.1.1 (runQ (storeL ⟨ns, es⟩) 7 ⟨0, []⟩ ⟨k, ⟨l, n⟩⟩).1, ownF 63 (.slice y.2.a y.2.n y.2.c) (runQ (storeL ⟨ns, es⟩) 7 ⟨0, []⟩ ⟨k, ⟨l, n⟩⟩).2.1.l]) w) := fun u' w a => c_i_Run w hss hsl a (RdF.nil _)
    have hP : ∀ u' w, RdF w u' (storeL ⟨ns, es⟩) → Calls Tryz.prog 18 #[u', .int .i64 7, .agg #[.int .i64 k, .int .i64 l, .int .i64 n]] w (Ret (fun z : V1 => z.1) (fun z => [ownF 63 z.1 (pagesQ (storeL ⟨ns, es⟩) 7 ⟨k, ⟨l, n⟩⟩)]) w) := fun u' w a => c_i_QueryPages w hss hsl a
    have g5 := pagesQ_lenB (storeL ⟨ns, es⟩) 7 ⟨k, ⟨l, n⟩⟩
    generalize pagesQ (storeL ⟨ns, es⟩) 7 ⟨k, ⟨l, n⟩⟩ = L1 at *
    generalize runQ (storeL ⟨ns, es⟩) 7 ⟨0, []⟩ ⟨k, ⟨l, n⟩⟩ = R1 at *
    generalize askL ⟨ns, es⟩ ⟨k, ⟨l, n⟩⟩ = A at *
    generalize storeL ⟨ns, es⟩ = xs at *
    obtain ⟨a1, ⟨z1, l1⟩, n1⟩ := R1
    dsimp only at *
    subst f1
    repeat' (first | refine E.st ?_ | refine E.dxa (i := 7) [0, 2, 3, 1, 4, 5, 6, 7, 8, 9, 10, 11, 12] ?_ | refine E.dxa (i := 8) [0, 1, 2, 3, 4, 5, 7, 6, 8, 9, 10, 11, 12] ?_ | refine E.br2 (i := 1) (j := 9) ?_ ?_ | refine E.br2 (i := 4) (j := 9) ?_ ?_ | refine E.al (fun _ => ?_) (hB := by first | exact fun _ => KB.l | exact fun _ => KB.x (Or.inr ksq) | exact fun _ => KB.y (Or.inr ksq)) | refine E.cl (h := fun _ w hw => c_wpIntsQ (xs := a1) w (by omega)) (k := ?_) | refine E.al (fun _ => ?_) | refine E.cm (h := fun w hw => hi w (RdIn.att h9 hw) (RdF.ofK hw)) (k := fun za => E.wy za.2 (fun ha => ?_)) | refine E.cm (h := fun w hw => hs w (RdIn.att h9 hw) (RdF.ofK hw)) (k := fun za => E.wy za.2 (fun ha => ?_)) | refine E.cl (h := fun _ w hw => c_wpIntsQ (xs := A) w (by omega)) (k := ?_) | refine E.cl (h := fun _ w hw => hgk w (RdIn.att h9 hw) (RdF.ofK hw)) (k := ?_) | refine E.cl (h := fun _ w _ => hqk w) (k := ?_) | refine E.cm (h := fun w hw => hOf w (RdIn.att h9 hw) (RdF.ofK hw)) (k := fun y => ?_) (hB := by first | exact fun _ => KB.l | exact fun _ => KB.x (Or.inr ksq) | exact fun _ => KB.y (Or.inr ksq)) | refine E.cmg (h := fun w hw => hOf w (RdIn.att h9 hw) (RdF.ofK hw)) (k := fun y => ?_) (hB := by first | exact fun _ => KB.l | exact fun _ => KB.x (Or.inr ksq) | exact fun _ => KB.y (Or.inr ksq)) | refine E.cm (h := fun w hw => hI _ w (RdF.ofK hw)) (k := fun y => E.wy y.1.2 (fun _ => ?_)) (hB := by first | exact fun _ => KB.l | exact fun _ => KB.x (Or.inr ksq) | exact fun _ => KB.y (Or.inr ksq)) | refine E.cmg (h := fun w hw => hP _ w (RdF.ofK hw)) (k := fun y => E.wy y.2 (fun _ => ?_)) (hB := by first | exact fun _ => KB.l | exact fun _ => KB.x (Or.inr ksq) | exact fun _ => KB.y (Or.inr ksq)) | refine E.q3 ?_ | refine E.q ?_ | refine E.qs ?_ | refine E.q2 ?_ | refine E.q4 ?_ | refine E.tr ?_ | refine E.ap (fun _ _ => ?_) | refine E.b1 (fun _ _ => ?_) | refine E.b0 (fun _ _ => ?_) | refine E.bsn (fun _ _ => ?_) | refine E.mk (fun _ _ => ?_) | refine E.bxO (fun _ => ?_) | refine E.al (fun _ => ?_) | refine E.sbO ?_ | refine E.dq ?_ | refine E.ct ?_ | refine E.cf ?_ | refine E.cs (fun hh => ?_) (fun hh => ?_) | refine E.at_block_other rfl ?_)
    all_goals first
      | exact rb
      | (refine rb ?_; simp; done)
      | (refine rb ?_; simp; omega)
      | (exfalso; simp at *; done)
      | trace_state
  · generalize gok ns es = b1 at *
    generalize qok ⟨k, ⟨l, n⟩⟩ = b2 at *
    generalize askL ⟨ns, es⟩ ⟨k, ⟨l, n⟩⟩ = A at *
    repeat' (first | refine E.st ?_ | refine E.al (fun _ => ?_) | refine E.cm (h := fun w hw => hi w (RdIn.att h9 hw) (RdF.ofK hw)) (k := fun za => E.wy za.2 (fun ha => ?_)) | refine E.cm (h := fun w hw => hs w (RdIn.att h9 hw) (RdF.ofK hw)) (k := fun za => E.wy za.2 (fun ha => ?_)) | refine E.cl (h := fun _ w hw => c_wpIntsQ (xs := A) w (by omega)) (k := ?_) | refine E.cl (h := fun _ w hw => hgk w (RdIn.att h9 hw) (RdF.ofK hw)) (k := ?_) | refine E.cl (h := fun _ w _ => hqk w) (k := ?_) | refine E.q3 ?_ | refine E.q ?_ | refine E.qs ?_ | refine E.q2 ?_ | refine E.q4 ?_ | refine E.tr ?_ | refine E.ap (fun _ _ => ?_) | refine E.b1 (fun _ _ => ?_) | refine E.b0 (fun _ _ => ?_) | refine E.bsn (fun _ _ => ?_) | refine E.mk (fun _ _ => ?_) | refine E.bxO (fun _ => ?_) | refine E.al (fun _ => ?_) | refine E.sbO ?_ | refine E.dq ?_ | refine E.ct ?_ | refine E.cf ?_ | refine E.cs (fun hh => ?_) (fun hh => ?_) | refine E.at_block_other rfl ?_)
    all_goals first
      | exact rb
      | (exfalso; revert hb hh; cases b1 <;> cases b2 <;> simp; done)
      | trace_state
end E
end Go.Proofs.YtpiiapoafmnhhaaGreat
