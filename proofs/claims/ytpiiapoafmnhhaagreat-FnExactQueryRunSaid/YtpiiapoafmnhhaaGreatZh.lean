/- Pages are used, as the program uses them. -/
import Derived.Test.YtpiiapoafmnhhaaGreatZg
namespace Go.Proofs.YtpiiapoafmnhhaaGreat
namespace E
open Go Go.RowKit
set_option linter.unusedSimpArgs false
set_option linter.unusedVariables false
set_option maxHeartbeats 1000000
set_option maxRecDepth 10000
attribute [local irreducible] HC HL HQ HX HO At Y YV Opd Opds KnX Sl Ld Src GV RV Calls Code.wp eptr adr RdF ownF OneX HG LdC
theorem c_i_PoolAll {z : Int} {A : Option Addr} {n c : Nat} {u : Value} {xs ys : List Pg} (w : World) (hok : PlOk ⟨z, xs⟩) (hys : ∀ y ∈ ys, pgok y = true) (hyl : ys.length ≤ 1000000) (hr : RdF w (.slice A n c) xs := by exact rdA) (hq : RdF w u ys := by exact rdA) :
    Calls Tryz.prog 40 #[.agg #[.int .i64 z, .slice A n c], u] w (Ret (fun s : Sv => .tuple #[.agg #[.int .i64 z, .slice s.a s.n s.c], .int .i64 (allP ⟨z, xs⟩ ys).2]) (fun s => [ownF 63 (.slice s.a s.n s.c) (allP ⟨z, xs⟩ ys).1.l]) w) := by
  have o2 := hq.one
  have hz := hok.1
  dsimp only at hz
  have hPo : ∀ w, RdF w (.slice A n c) xs → Calls Tryz.prog 57 #[.agg #[.int .i64 z, .slice A n c]] w (Ret (fun _ : Unit => .bool true) (fun _ => []) w) := fun w h => by
    have := c_i_PoolOk (z := z) w h
    rwa [decide_eq_true hok] at this
  refine enter (args := _) Tryz.func40 rfl Tryz.ntmps40 (by simp) ?_
  repeat' (first | refine E.st ?_ | refine E.bx (fun g2 => ?_) | refine E.al (fun g4 => ?_) | refine E.cl (h := fun _ w hw => hPo w (hr.now hw)) (k := ?_) | refine E.q3 ?_ | refine E.q ?_ | refine E.qs ?_ | refine E.q2 ?_ | refine E.q4 ?_ | refine E.tr ?_ | refine E.ap (fun _ _ => ?_) | refine E.b1 (fun _ _ => ?_) | refine E.b0 (fun _ _ => ?_) | refine E.bsn (fun _ _ => ?_) | refine E.mk (fun _ _ => ?_) | refine E.bxO (fun _ => ?_) | refine E.al (fun _ => ?_) | refine E.sbO ?_ | refine E.dq ?_ | refine E.ct ?_ | refine E.cf ?_ | refine E.cs (fun hh => ?_) (fun hh => ?_) | refine E.at_block_other rfl ?_)
  refine lq (fun k : Nat => k ≤ ys.length) (fun k => [(17, .pl (.int .i64 (k : Int)))]) (fun _ => ([] : List Ck)) (fun k => ys.length - k) 0 (Nat.zero_le _) (fun k hk => ?_)
  rcases Nat.lt_or_ge k ys.length with hlt | hge
  · obtain ⟨⟨yl, ya⟩, hy⟩ := get_lt hlt
    have hyo := hys _ (List.mem_of_getElem? hy)
    have hPg : ∀ w, Calls Tryz.prog 101 #[.agg #[.int .i64 yl, .int .i64 ya]] w (Ret (fun _ : Unit => .bool true) (fun _ => []) w) := fun w => by rw [← hyo]; exact c_i_PageOk w
    repeat' (first | refine E.st ?_ | refine E.cl (h := fun _ w hw => hPg w) (k := ?_) | refine E.q3 ?_ | refine E.q ?_ | refine E.qs ?_ | refine E.q2 ?_ | refine E.q4 ?_ | refine E.tr ?_ | refine E.ap (fun _ _ => ?_) | refine E.b1 (fun _ _ => ?_) | refine E.b0 (fun _ _ => ?_) | refine E.bsn (fun _ _ => ?_) | refine E.mk (fun _ _ => ?_) | refine E.bxO (fun _ => ?_) | refine E.al (fun _ => ?_) | refine E.sbO ?_ | refine E.dq ?_ | refine E.ct ?_ | refine E.cf ?_ | refine E.cs (fun hh => ?_) (fun hh => ?_) | refine E.at_block_other rfl ?_)
    all_goals first
      | exact rd (k + 1) hlt (hK := ksv)
      | (exfalso; simp_all; done)
      | trace_state
  · repeat' (first | refine E.st ?_ | refine E.cm (h := fun w hw => calls_svR (c_copyPg (ps := xs) w (hr.now hw) (by omega))) (k := fun s0 => ?_) | refine E.q3 ?_ | refine E.q ?_ | refine E.qs ?_ | refine E.q2 ?_ | refine E.q4 ?_ | refine E.tr ?_ | refine E.ap (fun _ _ => ?_) | refine E.b1 (fun _ _ => ?_) | refine E.b0 (fun _ _ => ?_) | refine E.bsn (fun _ _ => ?_) | refine E.mk (fun _ _ => ?_) | refine E.bxO (fun _ => ?_) | refine E.al (fun _ => ?_) | refine E.sbO ?_ | refine E.dq ?_ | refine E.ct ?_ | refine E.cf ?_ | refine E.cs (fun hh => ?_) (fun hh => ?_) | refine E.at_block_other rfl ?_)
    refine lq (fun p : Nat × Sv => p.1 ≤ ys.length) (fun p => [(32, .pl (.int .i64 (p.1 : Int))), (8, .pl (.int .i64 (allP ⟨z, xs⟩ (ys.take p.1)).2))]) (fun p => [.box g2 68 [.int .i64 z, .slice p.2.a p.2.n p.2.c], ownF 63 (.slice p.2.a p.2.n p.2.c) (allP ⟨z, xs⟩ (ys.take p.1)).1.l]) (fun p => ys.length - p.1) (0, s0) (Nat.zero_le _) (fun p hp => ?_)
    obtain ⟨j, s⟩ := p
    dsimp only at hp ⊢
    have hpk := PlOk.all (p := ⟨z, xs⟩) (list := ys.take j) hok (fun x hx => hys x (List.mem_of_mem_take hx))
    have hzk := allP_z ⟨z, xs⟩ (ys.take j)
    have hnk := allP_n ⟨z, xs⟩ (ys.take j)
    have htk : (ys.take j).length ≤ j := List.length_take_le _ _
    dsimp only at hzk
    rcases Nat.lt_or_ge j ys.length with hjlt | hjge
    · obtain ⟨⟨yl, ya⟩, hy⟩ := get_lt hjlt
      have hstep := allP_step (p := ⟨z, xs⟩) hy
      generalize hS : allP ⟨z, xs⟩ (ys.take j) = S at *
      obtain ⟨⟨sz, sl⟩, sn⟩ := S
      dsimp only at hzk hnk hpk hstep ⊢
      subst hzk
      have hlen := hpk.1
      dsimp only at hlen
      by_cases hm : (⟨yl, ya⟩ : Pg) ∈ sl
      · simp only [allS, if_pos hm] at hstep
        have hT : decide ((⟨yl, ya⟩ : Pg) ∈ sl) = true := decide_eq_true hm
        repeat' (first | refine E.st ?_ | refine E.ckl [.box g2 68 [.int .i64 sz, .slice s.a s.n s.c], ownF 63 (.slice s.a s.n s.c) sl] (h := fun w hw => c_use (z := sz) (l := yl) (a := ya) w (hw.perm List.perm_append_comm)) (k := fun y => ?_) | refine E.q3 ?_ | refine E.q ?_ | refine E.qs ?_ | refine E.q2 ?_ | refine E.q4 ?_ | refine E.tr ?_ | refine E.ap (fun _ _ => ?_) | refine E.b1 (fun _ _ => ?_) | refine E.b0 (fun _ _ => ?_) | refine E.bsn (fun _ _ => ?_) | refine E.mk (fun _ _ => ?_) | refine E.bxO (fun _ => ?_) | refine E.al (fun _ => ?_) | refine E.sbO ?_ | refine E.dq ?_ | refine E.ct ?_ | refine E.cf ?_ | refine E.cs (fun hh => ?_) (fun hh => ?_) | refine E.at_block_other rfl ?_)
        all_goals first
          | exact rd (α := Nat × Sv) (j + 1, y) hjlt (hF := by dsimp only; rw [hstep]; exact fs) (hK := by dsimp only; rw [hstep]; exact ksv)
          | (exfalso; simp_all; done)
          | trace_state
      · simp only [allS, if_neg hm] at hstep
        have hT : decide ((⟨yl, ya⟩ : Pg) ∈ sl) = false := decide_eq_false hm
        repeat' (first | refine E.st ?_ | refine E.ckl [.box g2 68 [.int .i64 sz, .slice s.a s.n s.c], ownF 63 (.slice s.a s.n s.c) sl] (h := fun w hw => c_use (z := sz) (l := yl) (a := ya) w (hw.perm List.perm_append_comm)) (k := fun y => ?_) | refine E.q3 ?_ | refine E.q ?_ | refine E.qs ?_ | refine E.q2 ?_ | refine E.q4 ?_ | refine E.tr ?_ | refine E.ap (fun _ _ => ?_) | refine E.b1 (fun _ _ => ?_) | refine E.b0 (fun _ _ => ?_) | refine E.bsn (fun _ _ => ?_) | refine E.mk (fun _ _ => ?_) | refine E.bxO (fun _ => ?_) | refine E.al (fun _ => ?_) | refine E.sbO ?_ | refine E.dq ?_ | refine E.ct ?_ | refine E.cf ?_ | refine E.cs (fun hh => ?_) (fun hh => ?_) | refine E.at_block_other rfl ?_)
        all_goals first
          | exact rd (α := Nat × Sv) (j + 1, y) hjlt (hF := by dsimp only; rw [hstep]; exact fs) (hK := by dsimp only; rw [hstep]; exact ksv)
          | (exfalso; simp_all; done)
          | trace_state
    · rw [List.take_of_length_le hjge]
      repeat' (first | refine E.st ?_ | refine E.q3 ?_ | refine E.q ?_ | refine E.qs ?_ | refine E.q2 ?_ | refine E.q4 ?_ | refine E.tr ?_ | refine E.ap (fun _ _ => ?_) | refine E.b1 (fun _ _ => ?_) | refine E.b0 (fun _ _ => ?_) | refine E.bsn (fun _ _ => ?_) | refine E.mk (fun _ _ => ?_) | refine E.bxO (fun _ => ?_) | refine E.al (fun _ => ?_) | refine E.sbO ?_ | refine E.dq ?_ | refine E.ct ?_ | refine E.cf ?_ | refine E.cs (fun hh => ?_) (fun hh => ?_) | refine E.at_block_other rfl ?_)
      exact rn s (hK := ksv)
end E
end Go.Proofs.YtpiiapoafmnhhaaGreat
