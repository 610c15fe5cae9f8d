/- WorldPurge: the law is walked. -/
import Derived.Test.YtbplkdibjjcomaaLWp
import Derived.Test.YtbplkdibjjcomaaEngN
namespace Go.Proofs.Ytbplkdibjjcomaa
namespace E
open Go Go.RowKit
set_option linter.unusedSimpArgs false
set_option linter.unusedVariables false
set_option maxHeartbeats 1000000
set_option maxRecDepth 10000
attribute [local irreducible] HC HL HQ HX HO At Y YV Opd Opds KnX Sl Ld Src GV RV Calls Code.wp eptr adr RdF ownF OneX
theorem sz_yes {P : Program} {f : FuncId} {v : Value} {k : Int} {n : Nat} {w : World} (h : Calls P f #[v, .int .i64 k] w (Ret (fun _ : Unit => .int .i64 (if k - n < 0 then -1 else k - n)) (fun _ => []) w)) (hk : (n : Int) ≤ k) : Calls P f #[v, .int .i64 k] w (Ret (fun _ : Unit => .int .i64 (k - n)) (fun _ => []) w) := by
  rwa [if_neg (by omega)] at h
theorem sz_no {P : Program} {f : FuncId} {v : Value} {k : Int} {n : Nat} {w : World} (h : Calls P f #[v, .int .i64 k] w (Ret (fun _ : Unit => .int .i64 (if k - n < 0 then -1 else k - n)) (fun _ => []) w)) (hk : ¬ (n : Int) ≤ k) : Calls P f #[v, .int .i64 k] w (Ret (fun _ : Unit => .int .i64 (-1)) (fun _ => []) w) := by
  rwa [if_pos (by omega)] at h
theorem same_EvS (v u : Value) (xs : List E.Ev) (w : World) (hr : RdF w v xs) (hq : RdF w u xs) : Calls Try.prog 24 #[v, u] w (Ret (fun _ : Unit => .bool true) (fun _ => []) w) := by
  have h := c_eqEvS v u xs xs w hr hq
  rwa [decide_eq_true rfl] at h
theorem same_PersonS (v u : Value) (xs : List Pe) (w : World) (hr : RdF w v xs) (hq : RdF w u xs) : Calls Try.prog 25 #[v, u] w (Ret (fun _ : Unit => .bool true) (fun _ => []) w) := by
  have h := c_eqPersonS v u xs xs w hr hq
  rwa [decide_eq_true rfl] at h
theorem c_law_WorldPurge (v u : Value) (ps : List Pe) (es : List Ev) (cl : Int) (w : World) (hr : RdF w v ps) (hq : RdF w u es) :
    Calls Try.prog 6 #[v, u, .int .i64 cl] w (Ret (fun _ : Unit => .bool true) (fun _ => []) w) := by
  by_cases h1 : (ps.length : Int) ≤ 1048576
  · by_cases h2 : (es.length : Int) ≤ 1048576 - ps.length
    · have hk2 : 0 ≤ (1048576 : Int) - ps.length ∧ (1048576 : Int) - ps.length ≤ 1048576 := by omega
      have hn1 : ps.length ≤ 1048576 := by omega
      have hn2 : es.length ≤ 1048576 := by omega
      have hn3 := List.length_filter_le (pur ps cl) es
      refine enter (args := _) Try.func6 rfl Try.ntmps6 (by simp) ?_
      repeat' (first
    | refine hc_seq ?_ | refine hc_region ?_ | refine hv ?_ | refine hvg ?_ | refine hl_nil ?_ | refine at_then ?_
    | refine hcv (fun w hw => sz_yes (c_szPersonS v ps 1048576 (by decide) w (hr.now hw)) h1) ?_ | refine hcv (fun w hw => sz_yes (c_szEvS u es _ hk2 w (hq.now hw)) h2) ?_ | refine hcm1 (fun w _ a => c_toPersonS _ ps hn1 w a) (fun vv => ?_) | refine hcm1 (fun w _ a => c_toEvS _ es hn2 w a) (fun vv => ?_) | refine hcm2 (fun w _ a b => c_s_WorldPurge _ _ ps es hn2 cl w a b) (fun vv => ?_) | refine hcm2 (fun w _ a b => c_i_WorldPurge _ _ ps es hn2 cl w a b) (fun vv => ?_) | refine hcv2 (fun w _ a b => same_EvS _ _ _ w a b) ?_ | refine hcvg2 (fun _ w _ a b => same_EvS _ _ _ w a b) ?_ | refine hcv2 (fun w _ a b => same_PersonS _ _ _ w a b) ?_ | (refine hkm (fun K' w hw => c_markPersonS (Pick.here _ K') _ ?_ ?_ w hw) (fun _ => ?_); (· omega); (· omega)) | (refine hkm (fun K' w hw => c_markEvS (Pick.here _ K') _ ?_ ?_ w hw) (fun _ => ?_); (· omega); (· omega)) | (refine hcv1 (fun w _ a => c_heldEvS (n := (es.filter (pur ps cl)).length) _ ?_ ?_ w a) ?_; (· omega); (· omega))
    | refine hb (fun _ => ?_) | refine ha (fun _ => ?_) | refine hs ?_ | refine qv ?_ | refine qvg ?_ | refine hq_nil ?_ | refine hc_quiet mixed (by kernel_rfl) ?_
    | refine ccdt (Opd.pl rfl) (by first | assumption | omega) ?_ | refine ccdf (Opd.pl rfl) (by first | assumption | omega) ?_ | refine ccnt (Opd.pl rfl) (by first | assumption | omega) ?_ | refine ccnf (Opd.pl rfl) (by first | assumption | omega) ?_ | refine ccbt (Opd.pl rfl) (by first | rfl | assumption) ?_ | refine ccbf (Opd.pl rfl) (by first | rfl | assumption) ?_ | refine ccnbt (Opd.pl rfl) (by assumption) ?_ | refine ccnbf (Opd.pl rfl) (by assumption) ?_
    | refine ccd (fun hh => ?_) (fun hh => ?_) | refine ccn (fun hh => ?_) (fun hh => ?_) | refine ccnb (fun hh => ?_) (fun hh => ?_) | refine cc (fun hh => ?_) (fun hh => ?_)
    | refine hc_skip ?_ | refine hc_ret ?_ | refine hc_exit ?_ | refine hc_block ?_ | refine at_then_ret ?_ | refine at_block_ret ?_ | refine at_block_exit ?_ | refine at_block_other rfl ?_ | refine at_then_exit ?_ | refine at_block ?_)
      all_goals exact ret0
    · have hk2 : 0 ≤ (1048576 : Int) - ps.length ∧ (1048576 : Int) - ps.length ≤ 1048576 := by omega
      refine enter (args := _) Try.func6 rfl Try.ntmps6 (by simp) ?_
      repeat' (first
    | refine hc_seq ?_ | refine hc_region ?_ | refine hv ?_ | refine hvg ?_ | refine hl_nil ?_ | refine at_then ?_
    | refine hcv (fun w hw => sz_yes (c_szPersonS v ps 1048576 (by decide) w (hr.now hw)) h1) ?_ | refine hcv (fun w hw => sz_no (c_szEvS u es _ hk2 w (hq.now hw)) h2) ?_
    | refine hb (fun _ => ?_) | refine ha (fun _ => ?_) | refine hs ?_ | refine qv ?_ | refine qvg ?_ | refine hq_nil ?_ | refine hc_quiet mixed (by kernel_rfl) ?_
    | refine ccdt (Opd.pl rfl) (by first | assumption | omega) ?_ | refine ccdf (Opd.pl rfl) (by first | assumption | omega) ?_ | refine ccnt (Opd.pl rfl) (by first | assumption | omega) ?_ | refine ccnf (Opd.pl rfl) (by first | assumption | omega) ?_ | refine ccbt (Opd.pl rfl) (by first | rfl | assumption) ?_ | refine ccbf (Opd.pl rfl) (by first | rfl | assumption) ?_ | refine ccnbt (Opd.pl rfl) (by assumption) ?_ | refine ccnbf (Opd.pl rfl) (by assumption) ?_
    | refine ccd (fun hh => ?_) (fun hh => ?_) | refine ccn (fun hh => ?_) (fun hh => ?_) | refine ccnb (fun hh => ?_) (fun hh => ?_) | refine cc (fun hh => ?_) (fun hh => ?_)
    | refine hc_skip ?_ | refine hc_ret ?_ | refine hc_exit ?_ | refine hc_block ?_ | refine at_then_ret ?_ | refine at_block_ret ?_ | refine at_block_exit ?_ | refine at_block_other rfl ?_ | refine at_then_exit ?_ | refine at_block ?_)
      exact ret0
  · refine enter (args := _) Try.func6 rfl Try.ntmps6 (by simp) ?_
    repeat' (first
    | refine hc_seq ?_ | refine hc_region ?_ | refine hv ?_ | refine hvg ?_ | refine hl_nil ?_ | refine at_then ?_
    | refine hcv (fun w hw => sz_no (c_szPersonS v ps 1048576 (by decide) w (hr.now hw)) h1) ?_
    | refine hb (fun _ => ?_) | refine ha (fun _ => ?_) | refine hs ?_ | refine qv ?_ | refine qvg ?_ | refine hq_nil ?_ | refine hc_quiet mixed (by kernel_rfl) ?_
    | refine ccdt (Opd.pl rfl) (by first | assumption | omega) ?_ | refine ccdf (Opd.pl rfl) (by first | assumption | omega) ?_ | refine ccnt (Opd.pl rfl) (by first | assumption | omega) ?_ | refine ccnf (Opd.pl rfl) (by first | assumption | omega) ?_ | refine ccbt (Opd.pl rfl) (by first | rfl | assumption) ?_ | refine ccbf (Opd.pl rfl) (by first | rfl | assumption) ?_ | refine ccnbt (Opd.pl rfl) (by assumption) ?_ | refine ccnbf (Opd.pl rfl) (by assumption) ?_
    | refine ccd (fun hh => ?_) (fun hh => ?_) | refine ccn (fun hh => ?_) (fun hh => ?_) | refine ccnb (fun hh => ?_) (fun hh => ?_) | refine cc (fun hh => ?_) (fun hh => ?_)
    | refine hc_skip ?_ | refine hc_ret ?_ | refine hc_exit ?_ | refine hc_block ?_ | refine at_then_ret ?_ | refine at_block_ret ?_ | refine at_block_exit ?_ | refine at_block_other rfl ?_ | refine at_then_exit ?_ | refine at_block ?_)
    exact ret0
end E
end Go.Proofs.Ytbplkdibjjcomaa
