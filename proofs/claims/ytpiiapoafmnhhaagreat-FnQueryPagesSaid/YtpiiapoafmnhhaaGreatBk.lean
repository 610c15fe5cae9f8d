/- The law of QueryPages is walked. -/
import Derived.Test.YtpiiapoafmnhhaaGreatBB
namespace Go.Proofs.YtpiiapoafmnhhaaGreat
namespace E
open Go Go.RowKit
set_option linter.unusedSimpArgs false
set_option linter.unusedVariables false
set_option maxHeartbeats 1000000
set_option maxRecDepth 10000
attribute [local irreducible] HC HL HQ HX HO At Y YV Opd Opds KnX Sl Ld Src GV RV Calls Code.wp eptr adr RdF ownF OneX HG LdC
set_option maxHeartbeats 4000000 in
theorem c_law_FnQueryPages {v : Value} {xs0 : List UInt8} (w : World) (hr : RdF w v xs0) : Calls Tryz.prog 7 #[v] w (Ret (fun _ : Unit => .bool true) (fun _ => []) w) := by
  have o1 := hr.one
  by_cases hcode : 1048576 < xs0.length
  · refine enter (args := _) Tryz.func7 rfl Tryz.ntmps7 (by simp) ?_
    repeat' (first | refine E.st ?_ | refine E.q3 ?_ | refine E.q ?_ | refine E.qs ?_ | refine E.q2 ?_ | refine E.q4 ?_ | refine E.tr ?_ | refine E.ap (fun _ _ => ?_) | refine E.b1 (fun _ _ => ?_) | refine E.b0 (fun _ _ => ?_) | refine E.bsn (fun _ _ => ?_) | refine E.mk (fun _ _ => ?_) | refine E.bxO (fun _ => ?_) | refine E.al (fun _ => ?_) | refine E.sbO ?_ | refine E.dq ?_ | refine E.ct ?_ | refine E.cf ?_ | refine E.cs (fun hh => ?_) (fun hh => ?_) | refine E.at_block_other rfl ?_)
    all_goals first
      | exact rb
      | (exfalso; omega)
  refine enter (args := _) Tryz.func7 rfl Tryz.ntmps7 (by simp) ?_
  repeat' (first | refine E.st ?_ | refine E.al (fun _ => ?_) | refine E.cm (h := fun w hw => c_DrawQueryPages w (hr.now hw)) (k := fun z => E.wy z.2 (fun hz => E.wy (cut_one' (n := z.1.1.2.1.length) (b := z.1.1.2.2) z.1.1.1.2) (fun h7 => E.wy (cutS_rd (List.mem_singleton.2 rfl) z.2.2 : RdIn w [ownF 65 z.1.1.1.1 z.1.1.2.1] (cutV z.1.1.2.2 z.1.1.1.1 z.1.1.2.1.length) (cutS z.1.1.2.2 z.1.1.2.1)) (fun h9 => ?_)))) | refine E.q3 ?_ | refine E.q ?_ | refine E.qs ?_ | refine E.q2 ?_ | refine E.q4 ?_ | refine E.tr ?_ | refine E.ap (fun _ _ => ?_) | refine E.b1 (fun _ _ => ?_) | refine E.b0 (fun _ _ => ?_) | refine E.bsn (fun _ _ => ?_) | refine E.mk (fun _ _ => ?_) | refine E.bxO (fun _ => ?_) | refine E.al (fun _ => ?_) | refine E.sbO ?_ | refine E.dq ?_ | refine E.ct ?_ | refine E.cf ?_ | refine E.cs (fun hh => ?_) (fun hh => ?_) | refine E.at_block_other rfl ?_)
  obtain ⟨⟨⟨⟨v0, hv0⟩, ys, b⟩, c, ⟨k, ⟨l, n⟩⟩⟩, hz1, hz2⟩ := z
  dsimp only at *
  obtain ⟨hl, hs⟩ := cutS_small b hz1
  generalize cutV b v0 ys.length = u at *
  generalize cutS b ys = xs at *
  have hI : ∀ u' A' m' cp' z' ps' w, RdF w u' xs → RdF w (.slice A' m' cp') ps' → Calls Tryz.prog 38 #[u', .int .i64 c, .agg #[.int .i64 z', .slice A' m' cp'], .agg #[.int .i64 k, .int .i64 l, .int .i64 n]] w (Ret (fun y : V1 × Sv => .tuple #[y.1.1, .agg #[.int .i64 (runQ xs c ⟨z', ps'⟩ ⟨k, ⟨l, n⟩⟩).2.1.z, .slice y.2.a y.2.n y.2.c], .int .i64 (runQ xs c ⟨z', ps'⟩ ⟨k, ⟨l, n⟩⟩).2.2]) (fun y => [ownF 3 y.1.1 (runQ xs c ⟨z', ps'⟩ ⟨k, ⟨l, n⟩⟩).1, ownF 63 (.slice y.2.a y.2.n y.2.c) (runQ xs c ⟨z', ps'⟩ ⟨k, ⟨l, n⟩⟩).2.1.l]) w) := fun u' A' m' cp' z' ps' w a b => c_i_Run w hs hl a b
  have hP : ∀ u' w, RdF w u' xs → Calls Tryz.prog 18 #[u', .int .i64 c, .agg #[.int .i64 k, .int .i64 l, .int .i64 n]] w (Ret (fun z : V1 => z.1) (fun z => [ownF 63 z.1 (pagesQ xs c ⟨k, ⟨l, n⟩⟩)]) w) := fun u' w a => c_i_QueryPages w hs hl a
  have hQ : ∀ u' w, RdF w u' xs → Calls Tryz.prog 15 #[u', .int .i64 c, .agg #[.int .i64 k, .int .i64 l, .int .i64 n]] w (Ret (fun z : V1 => z.1) (fun z => [ownF 63 z.1 (pagesQ xs c ⟨k, ⟨l, n⟩⟩)]) w) := fun u' w a => c_s_QueryPages w hs hl a
  have hI1 := fun u' w a => hI u' none 0 0 12 [] w a (RdF.nil _)
  clear hI
  obtain ⟨f1, f2⟩ := run_pages (xs := xs) (c := c) (q := ⟨k, ⟨l, n⟩⟩)
  obtain ⟨g1, g2⟩ := runQ_len xs c ⟨12, []⟩ ⟨k, ⟨l, n⟩⟩
  have g5 := pagesQ_lenB xs c ⟨k, ⟨l, n⟩⟩
  have hA : ∀ u' w, RdF w u' (pagesQ xs c ⟨k, ⟨l, n⟩⟩) → Calls Tryz.prog 40 #[.agg #[.int .i64 12, .slice none 0 0], u'] w (Ret (fun s : Sv => .tuple #[.agg #[.int .i64 12, .slice s.a s.n s.c], .int .i64 (allP ⟨12, []⟩ (pagesQ xs c ⟨k, ⟨l, n⟩⟩)).2]) (fun s => [ownF 63 (.slice s.a s.n s.c) (allP ⟨12, []⟩ (pagesQ xs c ⟨k, ⟨l, n⟩⟩)).1.l]) w) := fun u' w a => c_i_PoolAll (z := 12) (xs := []) w ⟨⟨by decide, by decide, by simp⟩, by simp, by simp⟩ (fun y hy => (f1 y hy).1) g5 (RdF.nil _) a
  have hpa := allP_z ⟨12, []⟩ (pagesQ xs c ⟨k, ⟨l, n⟩⟩)
  generalize allP ⟨12, []⟩ (pagesQ xs c ⟨k, ⟨l, n⟩⟩) = R2 at *
  generalize runQ xs c ⟨12, []⟩ ⟨k, ⟨l, n⟩⟩ = R1 at *
  generalize pagesQ xs c ⟨k, ⟨l, n⟩⟩ = L1 at *
  obtain ⟨a1, ⟨z1, l1⟩, n1⟩ := R1
  obtain ⟨⟨z2, l2⟩, n2⟩ := R2
  dsimp only at *
  subst hpa
  have hL : ∀ i : Nat, ∀ x, L1[i]? = some x → lun x.l c = true ∧ 0 ≤ x.a ∧ x.a < 1000 ∧ ∃ j : Nat, ∃ s, xs[j]? = some s ∧ s.l = x.l ∧ x.a * 8 < (s.b.size : Int) := fun i x hx => by
    obtain ⟨h1, h2, s, hs1, h3, h4⟩ := f1 x (List.mem_of_getElem? hx)
    obtain ⟨j, hj⟩ := List.getElem?_of_mem hs1
    simp only [pgok, Bool.and_eq_true, decide_eq_true_eq] at h1
    exact ⟨h2, h1.2.1, h1.2.2, j, s, hj, h3, h4⟩
  clear f1
  have hs2 := hs
  repeat' (first | refine E.st ?_ | refine E.al (fun _ => ?_) | refine E.cm (h := fun w hw => hP _ w (RdIn.att h9 hw)) (k := fun y => E.wy y.2 (fun hy => ?_)) | refine E.cm (h := fun w hw => hQ _ w (RdIn.att h9 hw)) (k := fun y' => E.wy y'.2 (fun _ => ?_)) | refine E.cl (h := fun _ w hw => c_wpPages (xs := L1) w (by omega)) (k := ?_) | refine E.q3 ?_ | refine E.q ?_ | refine E.qs ?_ | refine E.q2 ?_ | refine E.q4 ?_ | refine E.tr ?_ | refine E.ap (fun _ _ => ?_) | refine E.b1 (fun _ _ => ?_) | refine E.b0 (fun _ _ => ?_) | refine E.bsn (fun _ _ => ?_) | refine E.mk (fun _ _ => ?_) | refine E.bxO (fun _ => ?_) | refine E.al (fun _ => ?_) | refine E.sbO ?_ | refine E.dq ?_ | refine E.ct ?_ | refine E.cf ?_ | refine E.cs (fun hh => ?_) (fun hh => ?_) | refine E.at_block_other rfl ?_)
  refine lq (fun i : Nat => i ≤ L1.length) (fun i => [(7, .pl (.int .i64 (i : Int)))]) (fun _ => []) (fun i => L1.length - i) 0 (Nat.zero_le _) (fun i hi => ?_)
  rcases Nat.lt_or_ge i L1.length with hlt | hge
  · obtain ⟨⟨pl, pa⟩, hp⟩ := get_lt hlt
    obtain ⟨b1, b2, b3, j0, s0, hj, hsl, hsa⟩ := hL i _ hp
    have hj0 := (List.getElem?_eq_some_iff.1 hj).1
    have hcl : ∀ w, Calls Tryz.prog 39 #[.int .i64 pl, .int .i64 c] w (Ret (fun _ : Unit => .bool true) (fun _ => []) w) := fun w => by
      have := c_i_LabelUnder (a := pl) (b := c) w
      rwa [b1] at this
    repeat' (first | refine E.st ?_ | refine E.q3 ?_ | refine E.q ?_ | refine E.qs ?_ | refine E.q2 ?_ | refine E.q4 ?_ | refine E.tr ?_ | refine E.ap (fun _ _ => ?_) | refine E.b1 (fun _ _ => ?_) | refine E.b0 (fun _ _ => ?_) | refine E.bsn (fun _ _ => ?_) | refine E.mk (fun _ _ => ?_) | refine E.bxO (fun _ => ?_) | refine E.al (fun _ => ?_) | refine E.sbO ?_ | refine E.dq ?_ | refine E.ct ?_ | refine E.cf ?_ | refine E.cs (fun hh => ?_) (fun hh => ?_) | refine E.at_block_other rfl ?_)
    refine lq (fun s : Nat × Bool => s.1 ≤ xs.length ∧ (j0 < s.1 → s.2 = true)) (fun s => [(8, .pl (.bool s.2)), (9, .pl (.int .i64 (s.1 : Int)))]) (fun _ => []) (fun s => xs.length - s.1) (0, false) ⟨Nat.zero_le _, fun h => absurd h (Nat.not_lt_zero _)⟩ (fun s hs => ?_)
    obtain ⟨k', has⟩ := s
    obtain ⟨hk', hhas⟩ := hs
    dsimp only at hk' hhas ⊢
    rcases Nat.lt_or_ge k' xs.length with hlt2 | hge2
    · obtain ⟨⟨xl, xb⟩, hx⟩ := get_lt hlt2
      have hxs := hs2 _ (List.mem_of_getElem? hx)
      dsimp only at hxs b2 b3
      repeat' (first | refine E.st ?_ | refine E.q6 ?_ | refine E.q3 ?_ | refine E.q ?_ | refine E.qs ?_ | refine E.q2 ?_ | refine E.q4 ?_ | refine E.tr ?_ | refine E.ap (fun _ _ => ?_) | refine E.b1 (fun _ _ => ?_) | refine E.b0 (fun _ _ => ?_) | refine E.bsn (fun _ _ => ?_) | refine E.mk (fun _ _ => ?_) | refine E.bxO (fun _ => ?_) | refine E.al (fun _ => ?_) | refine E.sbO ?_ | refine E.dq ?_ | refine E.ct ?_ | refine E.cf ?_ | refine E.cs (fun hh => ?_) (fun hh => ?_) | refine E.at_block_other rfl ?_)
      refine rd (α := Nat × Bool) (k' + 1, _) ⟨hlt2, fun h => ?_⟩ (by dsimp only; omega)
      rcases Nat.lt_or_ge j0 k' with h1 | h1
      · dsimp only
        rw [hhas h1]
        rfl
      · have e : j0 = k' := by dsimp only at h; omega
        subst e
        rw [hx] at hj
        injection hj with hj
        subst hj
        dsimp only at hsl hsa ⊢
        have e8 : IntKind.i64.wrap (pa * 8) = pa * 8 := wrap_i64_of (by omega)
        simp [hsl, e8, hsa]
    · obtain rfl : has = true := hhas (by omega)
      repeat' (first | refine E.st ?_ | refine E.cl (h := fun _ w _ => hcl w) (k := ?_) | refine E.q3 ?_ | refine E.q ?_ | refine E.qs ?_ | refine E.q2 ?_ | refine E.q4 ?_ | refine E.tr ?_ | refine E.ap (fun _ _ => ?_) | refine E.b1 (fun _ _ => ?_) | refine E.b0 (fun _ _ => ?_) | refine E.bsn (fun _ _ => ?_) | refine E.mk (fun _ _ => ?_) | refine E.bxO (fun _ => ?_) | refine E.al (fun _ => ?_) | refine E.sbO ?_ | refine E.dq ?_ | refine E.ct ?_ | refine E.cf ?_ | refine E.cs (fun hh => ?_) (fun hh => ?_) | refine E.at_block_other rfl ?_)
      all_goals first
        | exact rd (i + 1) hlt
        | (exfalso; simp at *; done)
        | trace_state
  · rcases f2 with f2 | ⟨f2, f3⟩
    · subst f2
      have hln : ([] : List Pg).length = 0 := rfl
      generalize ([] : List Pg) = L1 at *
      repeat' (first | refine E.st ?_ | refine E.al (fun _ => ?_) | refine E.sk ?_ (hc := by simp [hln]) | refine E.cm (h := fun w hw => hI1 u w (RdIn.att h9 hw)) (k := fun y => E.wy y.1.2 (fun _ => ?_)) | refine E.cm (h := fun w hw => hA _ w (RdF.ofK hw)) (k := fun y => ?_) | refine E.q3 ?_ | refine E.q ?_ | refine E.qs ?_ | refine E.q2 ?_ | refine E.q4 ?_ | refine E.tr ?_ | refine E.ap (fun _ _ => ?_) | refine E.b1 (fun _ _ => ?_) | refine E.b0 (fun _ _ => ?_) | refine E.bsn (fun _ _ => ?_) | refine E.mk (fun _ _ => ?_) | refine E.bxO (fun _ => ?_) | refine E.al (fun _ => ?_) | refine E.sbO ?_ | refine E.dq ?_ | refine E.ct ?_ | refine E.cf ?_ | refine E.cs (fun hh => ?_) (fun hh => ?_) | refine E.at_block_other rfl ?_)
      all_goals first
        | exact rb
        | (refine rb ?_; simp [hln]; done)
        | trace_state
    · injection f2 with f4 f5
      injection f4 with f6 f7
      subst f5 f6 f7
      repeat' (first | refine E.st ?_ | refine E.al (fun _ => ?_) | refine E.cm (h := fun w hw => hI1 u w (RdIn.att h9 hw)) (k := fun y => E.wy y.1.2 (fun _ => ?_)) | refine E.cm (h := fun w hw => hA _ w (RdF.ofK hw)) (k := fun y => ?_) | refine E.cl (h := fun _ w hw => c_PoolSame_t (xs := l1) w) (k := ?_) | refine E.q3 ?_ | refine E.q ?_ | refine E.qs ?_ | refine E.q2 ?_ | refine E.q4 ?_ | refine E.tr ?_ | refine E.ap (fun _ _ => ?_) | refine E.b1 (fun _ _ => ?_) | refine E.b0 (fun _ _ => ?_) | refine E.bsn (fun _ _ => ?_) | refine E.mk (fun _ _ => ?_) | refine E.bxO (fun _ => ?_) | refine E.al (fun _ => ?_) | refine E.sbO ?_ | refine E.dq ?_ | refine E.ct ?_ | refine E.cf ?_ | refine E.cs (fun hh => ?_) (fun hh => ?_) | refine E.at_block_other rfl ?_)
      all_goals first
        | exact rb
        | (refine rb ?_; simp; omega)
        | trace_state
end E
end Go.Proofs.YtpiiapoafmnhhaaGreat
