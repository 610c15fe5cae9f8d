/- QueryOk: the program and the reference say the same of whatever is asked. -/
import Derived.Test.YtbplkdibjjcomaaFa
namespace Go.Proofs.Ytbplkdibjjcomaa
namespace E
open Go Go.RowKit
set_option linter.unusedSimpArgs false
set_option linter.unusedVariables false
set_option maxHeartbeats 1000000
set_option maxRecDepth 10000
attribute [local irreducible] HC HL HQ HX HO At Y YV Opd Opds KnX Sl Ld Src GV RV Calls Code.wp eptr adr RdF ownF OneX
structure Qu where
  k : Int
  n : Nd
def qok (x : Qu) : Bool := if x.k = 1 ∨ x.k = 2 then nok x.n else if x.k = 3 ∨ x.k = 4 then decide (x.n.l = 0 ∧ x.n.n = 0) else false
theorem c_toNode (l n : Int) (w : World) : Calls Try.prog 32 #[.agg #[.int .i64 l, .int .i64 n]] w (Ret (fun _ : Unit => .agg #[.int .i64 l, .int .i64 n]) (fun _ => []) w) := by
  refine enter (args := _) Try.func32 rfl Try.ntmps32 (by simp) ?_
  repeat' (first
    | refine hc_seq ?_ | refine hc_region ?_ | refine hv ?_ | refine hvg ?_ | refine hl_nil ?_ | refine at_then ?_
    | refine hb (fun _ => ?_) | refine ha (fun _ => ?_) | refine hs ?_ | refine qv ?_ | refine qvg ?_ | refine hq_nil ?_ | refine hc_quiet mixed (by kernel_rfl) ?_
    | refine ccdt (Opd.pl rfl) (by first | assumption | omega) ?_ | refine ccdf (Opd.pl rfl) (by first | assumption | omega) ?_ | refine ccnt (Opd.pl rfl) (by first | assumption | omega) ?_ | refine ccnf (Opd.pl rfl) (by first | assumption | omega) ?_ | refine ccbt (Opd.pl rfl) (by first | rfl | assumption) ?_ | refine ccbf (Opd.pl rfl) (by first | rfl | assumption) ?_ | refine ccnbt (Opd.pl rfl) (by assumption) ?_ | refine ccnbf (Opd.pl rfl) (by assumption) ?_
    | refine ccd (fun hh => ?_) (fun hh => ?_) | refine ccn (fun hh => ?_) (fun hh => ?_) | refine ccnb (fun hh => ?_) (fun hh => ?_) | refine cc (fun hh => ?_) (fun hh => ?_)
    | refine hc_skip ?_ | refine hc_ret ?_ | refine hc_exit ?_ | refine hc_block ?_ | refine at_then_ret ?_ | refine at_block_ret ?_ | refine at_block_exit ?_ | refine at_block_other rfl ?_ | refine at_then_exit ?_ | refine at_block ?_)
  exact ret1 ()
theorem c_toQuery (k l n : Int) (w : World) : Calls Try.prog 11 #[.agg #[.int .i64 k, .int .i64 l, .int .i64 n]] w (Ret (fun _ : Unit => .agg #[.int .i64 k, .int .i64 l, .int .i64 n]) (fun _ => []) w) := by
  refine enter (args := _) Try.func11 rfl Try.ntmps11 (by simp) ?_
  repeat' (first
    | refine hc_seq ?_ | refine hc_region ?_ | refine hv ?_ | refine hvg ?_ | refine hl_nil ?_ | refine at_then ?_
    | refine hcv (fun w _ => c_toNode _ _ w) ?_
    | refine hb (fun _ => ?_) | refine ha (fun _ => ?_) | refine hs ?_ | refine qv ?_ | refine qvg ?_ | refine hq_nil ?_ | refine hc_quiet mixed (by kernel_rfl) ?_
    | refine ccdt (Opd.pl rfl) (by first | assumption | omega) ?_ | refine ccdf (Opd.pl rfl) (by first | assumption | omega) ?_ | refine ccnt (Opd.pl rfl) (by first | assumption | omega) ?_ | refine ccnf (Opd.pl rfl) (by first | assumption | omega) ?_ | refine ccbt (Opd.pl rfl) (by first | rfl | assumption) ?_ | refine ccbf (Opd.pl rfl) (by first | rfl | assumption) ?_ | refine ccnbt (Opd.pl rfl) (by assumption) ?_ | refine ccnbf (Opd.pl rfl) (by assumption) ?_
    | refine ccd (fun hh => ?_) (fun hh => ?_) | refine ccn (fun hh => ?_) (fun hh => ?_) | refine ccnb (fun hh => ?_) (fun hh => ?_) | refine cc (fun hh => ?_) (fun hh => ?_)
    | refine hc_skip ?_ | refine hc_ret ?_ | refine hc_exit ?_ | refine hc_block ?_ | refine at_then_ret ?_ | refine at_block_ret ?_ | refine at_block_exit ?_ | refine at_block_other rfl ?_ | refine at_then_exit ?_ | refine at_block ?_)
  exact ret1 ()
theorem c_s_QueryOk (k l n : Int) (w : World) : Calls Try.prog 10 #[.agg #[.int .i64 k, .int .i64 l, .int .i64 n]] w (Ret (fun _ : Unit => .bool (qok ⟨k, ⟨l, n⟩⟩)) (fun _ => []) w) := by
  refine enter (args := _) Try.func10 rfl Try.ntmps10 (by simp) ?_
  repeat' (first
    | refine hc_seq ?_ | refine hc_region ?_ | refine hv ?_ | refine hvg ?_ | refine hl_nil ?_ | refine at_then ?_
    | refine hcv (fun w _ => c_s_NodeOk _ _ w) ?_
    | refine hb (fun _ => ?_) | refine ha (fun _ => ?_) | refine hs ?_ | refine qv ?_ | refine qvg ?_ | refine hq_nil ?_ | refine hc_quiet mixed (by kernel_rfl) ?_
    | refine ccdt (Opd.pl rfl) (by first | assumption | omega) ?_ | refine ccdf (Opd.pl rfl) (by first | assumption | omega) ?_ | refine ccnt (Opd.pl rfl) (by first | assumption | omega) ?_ | refine ccnf (Opd.pl rfl) (by first | assumption | omega) ?_ | refine ccbt (Opd.pl rfl) (by first | rfl | assumption) ?_ | refine ccbf (Opd.pl rfl) (by first | rfl | assumption) ?_ | refine ccnbt (Opd.pl rfl) (by assumption) ?_ | refine ccnbf (Opd.pl rfl) (by assumption) ?_
    | refine ccd (fun hh => ?_) (fun hh => ?_) | refine ccn (fun hh => ?_) (fun hh => ?_) | refine ccnb (fun hh => ?_) (fun hh => ?_) | refine cc (fun hh => ?_) (fun hh => ?_)
    | refine hc_skip ?_ | refine hc_ret ?_ | refine hc_exit ?_ | refine hc_block ?_ | refine at_then_ret ?_ | refine at_block_ret ?_ | refine at_block_exit ?_ | refine at_block_other rfl ?_ | refine at_then_exit ?_ | refine at_block ?_)
  all_goals (refine ret0 ?_; simp [qok, *])
theorem c_i_QueryOk (k l n : Int) (w : World) : Calls Try.prog 12 #[.agg #[.int .i64 k, .int .i64 l, .int .i64 n]] w (Ret (fun _ : Unit => .bool (qok ⟨k, ⟨l, n⟩⟩)) (fun _ => []) w) := by
  refine enter (args := _) Try.func12 rfl Try.ntmps12 (by simp) ?_
  repeat' (first
    | refine hc_seq ?_ | refine hc_region ?_ | refine hv ?_ | refine hvg ?_ | refine hl_nil ?_ | refine at_then ?_
    | refine hcv (fun w _ => c_i_NodeOk _ _ w) ?_
    | refine hb (fun _ => ?_) | refine ha (fun _ => ?_) | refine hs ?_ | refine qv ?_ | refine qvg ?_ | refine hq_nil ?_ | refine hc_quiet mixed (by kernel_rfl) ?_
    | refine ccdt (Opd.pl rfl) (by first | assumption | omega) ?_ | refine ccdf (Opd.pl rfl) (by first | assumption | omega) ?_ | refine ccnt (Opd.pl rfl) (by first | assumption | omega) ?_ | refine ccnf (Opd.pl rfl) (by first | assumption | omega) ?_ | refine ccbt (Opd.pl rfl) (by first | rfl | assumption) ?_ | refine ccbf (Opd.pl rfl) (by first | rfl | assumption) ?_ | refine ccnbt (Opd.pl rfl) (by assumption) ?_ | refine ccnbf (Opd.pl rfl) (by assumption) ?_
    | refine ccd (fun hh => ?_) (fun hh => ?_) | refine ccn (fun hh => ?_) (fun hh => ?_) | refine ccnb (fun hh => ?_) (fun hh => ?_) | refine cc (fun hh => ?_) (fun hh => ?_)
    | refine hc_skip ?_ | refine hc_ret ?_ | refine hc_exit ?_ | refine hc_block ?_ | refine at_then_ret ?_ | refine at_block_ret ?_ | refine at_block_exit ?_ | refine at_block_other rfl ?_ | refine at_then_exit ?_ | refine at_block ?_)
  all_goals (refine ret0 ?_; simp [qok, *])
theorem c_law_QueryOk (k l n : Int) (w : World) : Calls Try.prog 4 #[.agg #[.int .i64 k, .int .i64 l, .int .i64 n]] w (Ret (fun _ : Unit => .bool true) (fun _ => []) w) := by
  refine enter (args := _) Try.func4 rfl Try.ntmps4 (by simp) ?_
  repeat' (first
    | refine hc_seq ?_ | refine hc_region ?_ | refine hv ?_ | refine hvg ?_ | refine hl_nil ?_ | refine at_then ?_
    | refine hcv (fun w _ => c_toQuery _ _ _ w) ?_ | refine hcv (fun w _ => c_s_QueryOk _ _ _ w) ?_ | refine hcv (fun w _ => c_i_QueryOk _ _ _ w) ?_
    | refine hb (fun _ => ?_) | refine ha (fun _ => ?_) | refine hs ?_ | refine qv ?_ | refine qvg ?_ | refine hq_nil ?_ | refine hc_quiet mixed (by kernel_rfl) ?_
    | refine ccdt (Opd.pl rfl) (by first | assumption | omega) ?_ | refine ccdf (Opd.pl rfl) (by first | assumption | omega) ?_ | refine ccnt (Opd.pl rfl) (by first | assumption | omega) ?_ | refine ccnf (Opd.pl rfl) (by first | assumption | omega) ?_ | refine ccbt (Opd.pl rfl) (by first | rfl | assumption) ?_ | refine ccbf (Opd.pl rfl) (by first | rfl | assumption) ?_ | refine ccnbt (Opd.pl rfl) (by assumption) ?_ | refine ccnbf (Opd.pl rfl) (by assumption) ?_
    | refine ccd (fun hh => ?_) (fun hh => ?_) | refine ccn (fun hh => ?_) (fun hh => ?_) | refine ccnb (fun hh => ?_) (fun hh => ?_) | refine cc (fun hh => ?_) (fun hh => ?_)
    | refine hc_skip ?_ | refine hc_ret ?_ | refine hc_exit ?_ | refine hc_block ?_ | refine at_then_ret ?_ | refine at_block_ret ?_ | refine at_block_exit ?_ | refine at_block_other rfl ?_ | refine at_then_exit ?_ | refine at_block ?_)
  · rename_i hh
    simp at hh
  · exact ret0
end E
end Go.Proofs.Ytbplkdibjjcomaa
