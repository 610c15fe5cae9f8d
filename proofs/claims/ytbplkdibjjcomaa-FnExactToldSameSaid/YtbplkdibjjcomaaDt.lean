/- Contracts of the laws' helpers on data (written by a program of this repo: gen_data.py). -/
import Derived.Test.YtbplkdibjjcomaaTy
namespace Go.Proofs.Ytbplkdibjjcomaa
namespace E
open Go Go.RowKit
set_option linter.unusedSimpArgs false
set_option linter.unusedVariables false
set_option maxHeartbeats 1000000
set_option maxRecDepth 10000
attribute [local irreducible] HC HL HQ HX HO At Y YV Opd Opds KnX Sl Ld Src GV RV Calls Code.wp eptr adr RdF ownF OneX
instance : Flat Int := ⟨1, fun i => [.int .i64 i], fun _ => rfl, fun _ u h => by simp only [List.mem_cons, List.mem_nil_iff, or_false] at h; subst h; rfl⟩
instance : Mark Int := ⟨1, fun i => i⟩
structure Nd where
  l : Int
  n : Int
  deriving DecidableEq
instance : Flat E.Nd := ⟨2, fun x => [.int .i64 x.l, .int .i64 x.n], fun _ => rfl, fun _ u h => by simp only [List.mem_cons, List.mem_nil_iff, or_false] at h; (repeat' (rcases h with rfl | h)) <;> first | rfl | (subst h; rfl)⟩
instance : Mark E.Nd := ⟨2, fun i => ⟨i, i + 1⟩⟩
structure Eg where
  l : Int
  a : E.Nd
  b : E.Nd
  deriving DecidableEq
instance : Flat E.Eg := ⟨5, fun x => [.int .i64 x.l, .int .i64 x.a.l, .int .i64 x.a.n, .int .i64 x.b.l, .int .i64 x.b.n], fun _ => rfl, fun _ u h => by simp only [List.mem_cons, List.mem_nil_iff, or_false] at h; (repeat' (rcases h with rfl | h)) <;> first | rfl | (subst h; rfl)⟩
instance : Mark E.Eg := ⟨5, fun i => ⟨i, ⟨i + 1, i + 2⟩, ⟨i + 3, i + 4⟩⟩⟩
structure Opn where
  k : Int
  n : E.Nd
  e : E.Eg
  deriving DecidableEq
instance : Flat E.Opn := ⟨8, fun x => [.int .i64 x.k, .int .i64 x.n.l, .int .i64 x.n.n, .int .i64 x.e.l, .int .i64 x.e.a.l, .int .i64 x.e.a.n, .int .i64 x.e.b.l, .int .i64 x.e.b.n], fun _ => rfl, fun _ u h => by simp only [List.mem_cons, List.mem_nil_iff, or_false] at h; (repeat' (rcases h with rfl | h)) <;> first | rfl | (subst h; rfl)⟩
instance : Mark E.Opn := ⟨8, fun i => ⟨i, ⟨i + 1, i + 2⟩, ⟨i + 3, ⟨i + 4, i + 5⟩, ⟨i + 6, i + 7⟩⟩⟩⟩
structure Qu where
  k : Int
  n : E.Nd
  deriving DecidableEq
instance : Flat E.Qu := ⟨3, fun x => [.int .i64 x.k, .int .i64 x.n.l, .int .i64 x.n.n], fun _ => rfl, fun _ u h => by simp only [List.mem_cons, List.mem_nil_iff, or_false] at h; (repeat' (rcases h with rfl | h)) <;> first | rfl | (subst h; rfl)⟩
instance : Mark E.Qu := ⟨3, fun i => ⟨i, ⟨i + 1, i + 2⟩⟩⟩
structure Pe where
  c : Int
  z : Int
  q : Int
  deriving DecidableEq
instance : Flat E.Pe := ⟨3, fun x => [.int .i64 x.c, .int .i64 x.z, .int .i64 x.q], fun _ => rfl, fun _ u h => by simp only [List.mem_cons, List.mem_nil_iff, or_false] at h; (repeat' (rcases h with rfl | h)) <;> first | rfl | (subst h; rfl)⟩
instance : Mark E.Pe := ⟨3, fun i => ⟨i, i + 1, i + 2⟩⟩
structure Pg where
  l : Int
  a : Int
  deriving DecidableEq
instance : Flat E.Pg := ⟨2, fun x => [.int .i64 x.l, .int .i64 x.a], fun _ => rfl, fun _ u h => by simp only [List.mem_cons, List.mem_nil_iff, or_false] at h; (repeat' (rcases h with rfl | h)) <;> first | rfl | (subst h; rfl)⟩
instance : Mark E.Pg := ⟨2, fun i => ⟨i, i + 1⟩⟩
structure Ev where
  k : Int
  w : Int
  o : E.Opn
  q : E.Qu
  deriving DecidableEq
instance : Flat E.Ev := ⟨13, fun x => [.int .i64 x.k, .int .i64 x.w, .int .i64 x.o.k, .int .i64 x.o.n.l, .int .i64 x.o.n.n, .int .i64 x.o.e.l, .int .i64 x.o.e.a.l, .int .i64 x.o.e.a.n, .int .i64 x.o.e.b.l, .int .i64 x.o.e.b.n, .int .i64 x.q.k, .int .i64 x.q.n.l, .int .i64 x.q.n.n], fun _ => rfl, fun _ u h => by simp only [List.mem_cons, List.mem_nil_iff, or_false] at h; (repeat' (rcases h with rfl | h)) <;> first | rfl | (subst h; rfl)⟩
instance : Mark E.Ev := ⟨13, fun i => ⟨i, i + 1, ⟨i + 2, ⟨i + 3, i + 4⟩, ⟨i + 5, ⟨i + 6, i + 7⟩, ⟨i + 8, i + 9⟩⟩⟩, ⟨i + 10, ⟨i + 11, i + 12⟩⟩⟩⟩
theorem c_toNode (a0 a1 : Int) (w : World) : Calls Try.prog 32 #[.agg #[.int .i64 a0, .int .i64 a1]] w (Ret (fun _ : Unit => .agg #[.int .i64 a0, .int .i64 a1]) (fun _ => []) w) := by
  refine enter (args := _) Try.func32 rfl Try.ntmps32 (by simp) ?_
  repeat' (first
    | refine hc_seq ?_ | refine hc_region ?_ | refine hv ?_ | refine hvg ?_ | refine hl_nil ?_ | refine at_then ?_
    | refine hb (fun _ => ?_) | refine ha (fun _ => ?_) | refine hs ?_ | refine qv ?_ | refine qvg ?_ | refine hq_nil ?_ | refine hc_quiet mixed (by kernel_rfl) ?_
    | refine ccdt (Opd.pl rfl) (by first | assumption | omega) ?_ | refine ccdf (Opd.pl rfl) (by first | assumption | omega) ?_ | refine ccnt (Opd.pl rfl) (by first | assumption | omega) ?_ | refine ccnf (Opd.pl rfl) (by first | assumption | omega) ?_ | refine ccbt (Opd.pl rfl) (by first | rfl | assumption) ?_ | refine ccbf (Opd.pl rfl) (by first | rfl | assumption) ?_ | refine ccnbt (Opd.pl rfl) (by assumption) ?_ | refine ccnbf (Opd.pl rfl) (by assumption) ?_
    | refine ccd (fun hh => ?_) (fun hh => ?_) | refine ccn (fun hh => ?_) (fun hh => ?_) | refine ccnb (fun hh => ?_) (fun hh => ?_) | refine cc (fun hh => ?_) (fun hh => ?_)
    | refine hc_skip ?_ | refine hc_ret ?_ | refine hc_exit ?_ | refine hc_block ?_ | refine at_then_ret ?_ | refine at_block_ret ?_ | refine at_block_exit ?_ | refine at_block_other rfl ?_ | refine at_then_exit ?_ | refine at_block ?_)
  exact ret1 ()
theorem c_eqNode (a0 a1 b0 b1 : Int) (w : World) : Calls Try.prog 64 #[.agg #[.int .i64 a0, .int .i64 a1], .agg #[.int .i64 b0, .int .i64 b1]] w (Ret (fun _ : Unit => .bool (decide ((⟨a0, a1⟩ : E.Nd) = ⟨b0, b1⟩))) (fun _ => []) w) := by
  refine enter (args := _) Try.func64 rfl Try.ntmps64 (by simp) ?_
  repeat' (first
    | refine hc_seq ?_ | refine hc_region ?_ | refine hv ?_ | refine hvg ?_ | refine hl_nil ?_ | refine at_then ?_
    | refine hb (fun _ => ?_) | refine ha (fun _ => ?_) | refine hs ?_ | refine qv ?_ | refine qvg ?_ | refine hq_nil ?_ | refine hc_quiet mixed (by kernel_rfl) ?_
    | refine ccdt (Opd.pl rfl) (by first | assumption | omega) ?_ | refine ccdf (Opd.pl rfl) (by first | assumption | omega) ?_ | refine ccnt (Opd.pl rfl) (by first | assumption | omega) ?_ | refine ccnf (Opd.pl rfl) (by first | assumption | omega) ?_ | refine ccbt (Opd.pl rfl) (by first | rfl | assumption) ?_ | refine ccbf (Opd.pl rfl) (by first | rfl | assumption) ?_ | refine ccnbt (Opd.pl rfl) (by assumption) ?_ | refine ccnbf (Opd.pl rfl) (by assumption) ?_
    | refine ccd (fun hh => ?_) (fun hh => ?_) | refine ccn (fun hh => ?_) (fun hh => ?_) | refine ccnb (fun hh => ?_) (fun hh => ?_) | refine cc (fun hh => ?_) (fun hh => ?_)
    | refine hc_skip ?_ | refine hc_ret ?_ | refine hc_exit ?_ | refine hc_block ?_ | refine at_then_ret ?_ | refine at_block_ret ?_ | refine at_block_exit ?_ | refine at_block_other rfl ?_ | refine at_then_exit ?_ | refine at_block ?_)
  all_goals (refine ret0 ?_; simp_all)
theorem c_toEdge (a0 a1 a2 a3 a4 : Int) (w : World) : Calls Try.prog 62 #[.agg #[.int .i64 a0, .int .i64 a1, .int .i64 a2, .int .i64 a3, .int .i64 a4]] w (Ret (fun _ : Unit => .agg #[.int .i64 a0, .int .i64 a1, .int .i64 a2, .int .i64 a3, .int .i64 a4]) (fun _ => []) w) := by
  refine enter (args := _) Try.func62 rfl Try.ntmps62 (by simp) ?_
  repeat' (first
    | refine hc_seq ?_ | refine hc_region ?_ | refine hv ?_ | refine hvg ?_ | refine hl_nil ?_ | refine at_then ?_
    | refine hcv (fun w _ => c_toNode _ _ w) ?_
    | refine hb (fun _ => ?_) | refine ha (fun _ => ?_) | refine hs ?_ | refine qv ?_ | refine qvg ?_ | refine hq_nil ?_ | refine hc_quiet mixed (by kernel_rfl) ?_
    | refine ccdt (Opd.pl rfl) (by first | assumption | omega) ?_ | refine ccdf (Opd.pl rfl) (by first | assumption | omega) ?_ | refine ccnt (Opd.pl rfl) (by first | assumption | omega) ?_ | refine ccnf (Opd.pl rfl) (by first | assumption | omega) ?_ | refine ccbt (Opd.pl rfl) (by first | rfl | assumption) ?_ | refine ccbf (Opd.pl rfl) (by first | rfl | assumption) ?_ | refine ccnbt (Opd.pl rfl) (by assumption) ?_ | refine ccnbf (Opd.pl rfl) (by assumption) ?_
    | refine ccd (fun hh => ?_) (fun hh => ?_) | refine ccn (fun hh => ?_) (fun hh => ?_) | refine ccnb (fun hh => ?_) (fun hh => ?_) | refine cc (fun hh => ?_) (fun hh => ?_)
    | refine hc_skip ?_ | refine hc_ret ?_ | refine hc_exit ?_ | refine hc_block ?_ | refine at_then_ret ?_ | refine at_block_ret ?_ | refine at_block_exit ?_ | refine at_block_other rfl ?_ | refine at_then_exit ?_ | refine at_block ?_)
  exact ret1 ()
theorem c_eqEdge (a0 a1 a2 a3 a4 b0 b1 b2 b3 b4 : Int) (w : World) : Calls Try.prog 65 #[.agg #[.int .i64 a0, .int .i64 a1, .int .i64 a2, .int .i64 a3, .int .i64 a4], .agg #[.int .i64 b0, .int .i64 b1, .int .i64 b2, .int .i64 b3, .int .i64 b4]] w (Ret (fun _ : Unit => .bool (decide ((⟨a0, ⟨a1, a2⟩, ⟨a3, a4⟩⟩ : E.Eg) = ⟨b0, ⟨b1, b2⟩, ⟨b3, b4⟩⟩))) (fun _ => []) w) := by
  refine enter (args := _) Try.func65 rfl Try.ntmps65 (by simp) ?_
  repeat' (first
    | refine hc_seq ?_ | refine hc_region ?_ | refine hv ?_ | refine hvg ?_ | refine hl_nil ?_ | refine at_then ?_
    | refine hcv (fun w _ => c_eqNode _ _ _ _ w) ?_ | refine qcv (fun w _ => c_eqNode _ _ _ _ w) ?_
    | refine hb (fun _ => ?_) | refine ha (fun _ => ?_) | refine hs ?_ | refine qv ?_ | refine qvg ?_ | refine hq_nil ?_ | refine hc_quiet mixed (by kernel_rfl) ?_
    | refine ccdt (Opd.pl rfl) (by first | assumption | omega) ?_ | refine ccdf (Opd.pl rfl) (by first | assumption | omega) ?_ | refine ccnt (Opd.pl rfl) (by first | assumption | omega) ?_ | refine ccnf (Opd.pl rfl) (by first | assumption | omega) ?_ | refine ccbt (Opd.pl rfl) (by first | rfl | assumption) ?_ | refine ccbf (Opd.pl rfl) (by first | rfl | assumption) ?_ | refine ccnbt (Opd.pl rfl) (by assumption) ?_ | refine ccnbf (Opd.pl rfl) (by assumption) ?_
    | refine ccd (fun hh => ?_) (fun hh => ?_) | refine ccn (fun hh => ?_) (fun hh => ?_) | refine ccnb (fun hh => ?_) (fun hh => ?_) | refine cc (fun hh => ?_) (fun hh => ?_)
    | refine hc_skip ?_ | refine hc_ret ?_ | refine hc_exit ?_ | refine hc_block ?_ | refine at_then_ret ?_ | refine at_block_ret ?_ | refine at_block_exit ?_ | refine at_block_other rfl ?_ | refine at_then_exit ?_ | refine at_block ?_)
  all_goals (refine ret0 ?_; simp_all)
theorem c_toOp (a0 a1 a2 a3 a4 a5 a6 a7 : Int) (w : World) : Calls Try.prog 55 #[.agg #[.int .i64 a0, .int .i64 a1, .int .i64 a2, .int .i64 a3, .int .i64 a4, .int .i64 a5, .int .i64 a6, .int .i64 a7]] w (Ret (fun _ : Unit => .agg #[.int .i64 a0, .int .i64 a1, .int .i64 a2, .int .i64 a3, .int .i64 a4, .int .i64 a5, .int .i64 a6, .int .i64 a7]) (fun _ => []) w) := by
  refine enter (args := _) Try.func55 rfl Try.ntmps55 (by simp) ?_
  repeat' (first
    | refine hc_seq ?_ | refine hc_region ?_ | refine hv ?_ | refine hvg ?_ | refine hl_nil ?_ | refine at_then ?_
    | refine hcv (fun w _ => c_toNode _ _ w) ?_ | refine hcv (fun w _ => c_toEdge _ _ _ _ _ w) ?_
    | refine hb (fun _ => ?_) | refine ha (fun _ => ?_) | refine hs ?_ | refine qv ?_ | refine qvg ?_ | refine hq_nil ?_ | refine hc_quiet mixed (by kernel_rfl) ?_
    | refine ccdt (Opd.pl rfl) (by first | assumption | omega) ?_ | refine ccdf (Opd.pl rfl) (by first | assumption | omega) ?_ | refine ccnt (Opd.pl rfl) (by first | assumption | omega) ?_ | refine ccnf (Opd.pl rfl) (by first | assumption | omega) ?_ | refine ccbt (Opd.pl rfl) (by first | rfl | assumption) ?_ | refine ccbf (Opd.pl rfl) (by first | rfl | assumption) ?_ | refine ccnbt (Opd.pl rfl) (by assumption) ?_ | refine ccnbf (Opd.pl rfl) (by assumption) ?_
    | refine ccd (fun hh => ?_) (fun hh => ?_) | refine ccn (fun hh => ?_) (fun hh => ?_) | refine ccnb (fun hh => ?_) (fun hh => ?_) | refine cc (fun hh => ?_) (fun hh => ?_)
    | refine hc_skip ?_ | refine hc_ret ?_ | refine hc_exit ?_ | refine hc_block ?_ | refine at_then_ret ?_ | refine at_block_ret ?_ | refine at_block_exit ?_ | refine at_block_other rfl ?_ | refine at_then_exit ?_ | refine at_block ?_)
  exact ret1 ()
theorem c_eqOp (a0 a1 a2 a3 a4 a5 a6 a7 b0 b1 b2 b3 b4 b5 b6 b7 : Int) (w : World) : Calls Try.prog 58 #[.agg #[.int .i64 a0, .int .i64 a1, .int .i64 a2, .int .i64 a3, .int .i64 a4, .int .i64 a5, .int .i64 a6, .int .i64 a7], .agg #[.int .i64 b0, .int .i64 b1, .int .i64 b2, .int .i64 b3, .int .i64 b4, .int .i64 b5, .int .i64 b6, .int .i64 b7]] w (Ret (fun _ : Unit => .bool (decide ((⟨a0, ⟨a1, a2⟩, ⟨a3, ⟨a4, a5⟩, ⟨a6, a7⟩⟩⟩ : E.Opn) = ⟨b0, ⟨b1, b2⟩, ⟨b3, ⟨b4, b5⟩, ⟨b6, b7⟩⟩⟩))) (fun _ => []) w) := by
  refine enter (args := _) Try.func58 rfl Try.ntmps58 (by simp) ?_
  repeat' (first
    | refine hc_seq ?_ | refine hc_region ?_ | refine hv ?_ | refine hvg ?_ | refine hl_nil ?_ | refine at_then ?_
    | refine hcv (fun w _ => c_eqNode _ _ _ _ w) ?_ | refine qcv (fun w _ => c_eqNode _ _ _ _ w) ?_ | refine hcv (fun w _ => c_eqEdge _ _ _ _ _ _ _ _ _ _ w) ?_ | refine qcv (fun w _ => c_eqEdge _ _ _ _ _ _ _ _ _ _ w) ?_
    | refine hb (fun _ => ?_) | refine ha (fun _ => ?_) | refine hs ?_ | refine qv ?_ | refine qvg ?_ | refine hq_nil ?_ | refine hc_quiet mixed (by kernel_rfl) ?_
    | refine ccdt (Opd.pl rfl) (by first | assumption | omega) ?_ | refine ccdf (Opd.pl rfl) (by first | assumption | omega) ?_ | refine ccnt (Opd.pl rfl) (by first | assumption | omega) ?_ | refine ccnf (Opd.pl rfl) (by first | assumption | omega) ?_ | refine ccbt (Opd.pl rfl) (by first | rfl | assumption) ?_ | refine ccbf (Opd.pl rfl) (by first | rfl | assumption) ?_ | refine ccnbt (Opd.pl rfl) (by assumption) ?_ | refine ccnbf (Opd.pl rfl) (by assumption) ?_
    | refine ccd (fun hh => ?_) (fun hh => ?_) | refine ccn (fun hh => ?_) (fun hh => ?_) | refine ccnb (fun hh => ?_) (fun hh => ?_) | refine cc (fun hh => ?_) (fun hh => ?_)
    | refine hc_skip ?_ | refine hc_ret ?_ | refine hc_exit ?_ | refine hc_block ?_ | refine at_then_ret ?_ | refine at_block_ret ?_ | refine at_block_exit ?_ | refine at_block_other rfl ?_ | refine at_then_exit ?_ | refine at_block ?_)
  all_goals (refine ret0 ?_; simp_all)
theorem c_toQuery (a0 a1 a2 : Int) (w : World) : Calls Try.prog 11 #[.agg #[.int .i64 a0, .int .i64 a1, .int .i64 a2]] w (Ret (fun _ : Unit => .agg #[.int .i64 a0, .int .i64 a1, .int .i64 a2]) (fun _ => []) w) := by
  refine enter (args := _) Try.func11 rfl Try.ntmps11 (by simp) ?_
  repeat' (first
    | refine hc_seq ?_ | refine hc_region ?_ | refine hv ?_ | refine hvg ?_ | refine hl_nil ?_ | refine at_then ?_
    | refine hcv (fun w _ => c_toNode _ _ w) ?_
    | refine hb (fun _ => ?_) | refine ha (fun _ => ?_) | refine hs ?_ | refine qv ?_ | refine qvg ?_ | refine hq_nil ?_ | refine hc_quiet mixed (by kernel_rfl) ?_
    | refine ccdt (Opd.pl rfl) (by first | assumption | omega) ?_ | refine ccdf (Opd.pl rfl) (by first | assumption | omega) ?_ | refine ccnt (Opd.pl rfl) (by first | assumption | omega) ?_ | refine ccnf (Opd.pl rfl) (by first | assumption | omega) ?_ | refine ccbt (Opd.pl rfl) (by first | rfl | assumption) ?_ | refine ccbf (Opd.pl rfl) (by first | rfl | assumption) ?_ | refine ccnbt (Opd.pl rfl) (by assumption) ?_ | refine ccnbf (Opd.pl rfl) (by assumption) ?_
    | refine ccd (fun hh => ?_) (fun hh => ?_) | refine ccn (fun hh => ?_) (fun hh => ?_) | refine ccnb (fun hh => ?_) (fun hh => ?_) | refine cc (fun hh => ?_) (fun hh => ?_)
    | refine hc_skip ?_ | refine hc_ret ?_ | refine hc_exit ?_ | refine hc_block ?_ | refine at_then_ret ?_ | refine at_block_ret ?_ | refine at_block_exit ?_ | refine at_block_other rfl ?_ | refine at_then_exit ?_ | refine at_block ?_)
  exact ret1 ()
theorem c_eqQuery (a0 a1 a2 b0 b1 b2 : Int) (w : World) : Calls Try.prog 59 #[.agg #[.int .i64 a0, .int .i64 a1, .int .i64 a2], .agg #[.int .i64 b0, .int .i64 b1, .int .i64 b2]] w (Ret (fun _ : Unit => .bool (decide ((⟨a0, ⟨a1, a2⟩⟩ : E.Qu) = ⟨b0, ⟨b1, b2⟩⟩))) (fun _ => []) w) := by
  refine enter (args := _) Try.func59 rfl Try.ntmps59 (by simp) ?_
  repeat' (first
    | refine hc_seq ?_ | refine hc_region ?_ | refine hv ?_ | refine hvg ?_ | refine hl_nil ?_ | refine at_then ?_
    | refine hcv (fun w _ => c_eqNode _ _ _ _ w) ?_ | refine qcv (fun w _ => c_eqNode _ _ _ _ w) ?_
    | refine hb (fun _ => ?_) | refine ha (fun _ => ?_) | refine hs ?_ | refine qv ?_ | refine qvg ?_ | refine hq_nil ?_ | refine hc_quiet mixed (by kernel_rfl) ?_
    | refine ccdt (Opd.pl rfl) (by first | assumption | omega) ?_ | refine ccdf (Opd.pl rfl) (by first | assumption | omega) ?_ | refine ccnt (Opd.pl rfl) (by first | assumption | omega) ?_ | refine ccnf (Opd.pl rfl) (by first | assumption | omega) ?_ | refine ccbt (Opd.pl rfl) (by first | rfl | assumption) ?_ | refine ccbf (Opd.pl rfl) (by first | rfl | assumption) ?_ | refine ccnbt (Opd.pl rfl) (by assumption) ?_ | refine ccnbf (Opd.pl rfl) (by assumption) ?_
    | refine ccd (fun hh => ?_) (fun hh => ?_) | refine ccn (fun hh => ?_) (fun hh => ?_) | refine ccnb (fun hh => ?_) (fun hh => ?_) | refine cc (fun hh => ?_) (fun hh => ?_)
    | refine hc_skip ?_ | refine hc_ret ?_ | refine hc_exit ?_ | refine hc_block ?_ | refine at_then_ret ?_ | refine at_block_ret ?_ | refine at_block_exit ?_ | refine at_block_other rfl ?_ | refine at_then_exit ?_ | refine at_block ?_)
  all_goals (refine ret0 ?_; simp_all)
theorem c_toPerson (a0 a1 a2 : Int) (w : World) : Calls Try.prog 8 #[.agg #[.int .i64 a0, .int .i64 a1, .int .i64 a2]] w (Ret (fun _ : Unit => .agg #[.int .i64 a0, .int .i64 a1, .int .i64 a2]) (fun _ => []) w) := by
  refine enter (args := _) Try.func8 rfl Try.ntmps8 (by simp) ?_
  repeat' (first
    | refine hc_seq ?_ | refine hc_region ?_ | refine hv ?_ | refine hvg ?_ | refine hl_nil ?_ | refine at_then ?_
    | refine hb (fun _ => ?_) | refine ha (fun _ => ?_) | refine hs ?_ | refine qv ?_ | refine qvg ?_ | refine hq_nil ?_ | refine hc_quiet mixed (by kernel_rfl) ?_
    | refine ccdt (Opd.pl rfl) (by first | assumption | omega) ?_ | refine ccdf (Opd.pl rfl) (by first | assumption | omega) ?_ | refine ccnt (Opd.pl rfl) (by first | assumption | omega) ?_ | refine ccnf (Opd.pl rfl) (by first | assumption | omega) ?_ | refine ccbt (Opd.pl rfl) (by first | rfl | assumption) ?_ | refine ccbf (Opd.pl rfl) (by first | rfl | assumption) ?_ | refine ccnbt (Opd.pl rfl) (by assumption) ?_ | refine ccnbf (Opd.pl rfl) (by assumption) ?_
    | refine ccd (fun hh => ?_) (fun hh => ?_) | refine ccn (fun hh => ?_) (fun hh => ?_) | refine ccnb (fun hh => ?_) (fun hh => ?_) | refine cc (fun hh => ?_) (fun hh => ?_)
    | refine hc_skip ?_ | refine hc_ret ?_ | refine hc_exit ?_ | refine hc_block ?_ | refine at_then_ret ?_ | refine at_block_ret ?_ | refine at_block_exit ?_ | refine at_block_other rfl ?_ | refine at_then_exit ?_ | refine at_block ?_)
  exact ret1 ()
theorem c_eqPerson (a0 a1 a2 b0 b1 b2 : Int) (w : World) : Calls Try.prog 49 #[.agg #[.int .i64 a0, .int .i64 a1, .int .i64 a2], .agg #[.int .i64 b0, .int .i64 b1, .int .i64 b2]] w (Ret (fun _ : Unit => .bool (decide ((⟨a0, a1, a2⟩ : E.Pe) = ⟨b0, b1, b2⟩))) (fun _ => []) w) := by
  refine enter (args := _) Try.func49 rfl Try.ntmps49 (by simp) ?_
  repeat' (first
    | refine hc_seq ?_ | refine hc_region ?_ | refine hv ?_ | refine hvg ?_ | refine hl_nil ?_ | refine at_then ?_
    | refine hb (fun _ => ?_) | refine ha (fun _ => ?_) | refine hs ?_ | refine qv ?_ | refine qvg ?_ | refine hq_nil ?_ | refine hc_quiet mixed (by kernel_rfl) ?_
    | refine ccdt (Opd.pl rfl) (by first | assumption | omega) ?_ | refine ccdf (Opd.pl rfl) (by first | assumption | omega) ?_ | refine ccnt (Opd.pl rfl) (by first | assumption | omega) ?_ | refine ccnf (Opd.pl rfl) (by first | assumption | omega) ?_ | refine ccbt (Opd.pl rfl) (by first | rfl | assumption) ?_ | refine ccbf (Opd.pl rfl) (by first | rfl | assumption) ?_ | refine ccnbt (Opd.pl rfl) (by assumption) ?_ | refine ccnbf (Opd.pl rfl) (by assumption) ?_
    | refine ccd (fun hh => ?_) (fun hh => ?_) | refine ccn (fun hh => ?_) (fun hh => ?_) | refine ccnb (fun hh => ?_) (fun hh => ?_) | refine cc (fun hh => ?_) (fun hh => ?_)
    | refine hc_skip ?_ | refine hc_ret ?_ | refine hc_exit ?_ | refine hc_block ?_ | refine at_then_ret ?_ | refine at_block_ret ?_ | refine at_block_exit ?_ | refine at_block_other rfl ?_ | refine at_then_exit ?_ | refine at_block ?_)
  all_goals (refine ret0 ?_; simp_all)
theorem c_toEv (a0 a1 a2 a3 a4 a5 a6 a7 a8 a9 a10 a11 a12 : Int) (w : World) : Calls Try.prog 44 #[.agg #[.int .i64 a0, .int .i64 a1, .int .i64 a2, .int .i64 a3, .int .i64 a4, .int .i64 a5, .int .i64 a6, .int .i64 a7, .int .i64 a8, .int .i64 a9, .int .i64 a10, .int .i64 a11, .int .i64 a12]] w (Ret (fun _ : Unit => .agg #[.int .i64 a0, .int .i64 a1, .int .i64 a2, .int .i64 a3, .int .i64 a4, .int .i64 a5, .int .i64 a6, .int .i64 a7, .int .i64 a8, .int .i64 a9, .int .i64 a10, .int .i64 a11, .int .i64 a12]) (fun _ => []) w) := by
  refine enter (args := _) Try.func44 rfl Try.ntmps44 (by simp) ?_
  repeat' (first
    | refine hc_seq ?_ | refine hc_region ?_ | refine hv ?_ | refine hvg ?_ | refine hl_nil ?_ | refine at_then ?_
    | refine hcv (fun w _ => c_toOp _ _ _ _ _ _ _ _ w) ?_ | refine hcv (fun w _ => c_toQuery _ _ _ w) ?_
    | refine hb (fun _ => ?_) | refine ha (fun _ => ?_) | refine hs ?_ | refine qv ?_ | refine qvg ?_ | refine hq_nil ?_ | refine hc_quiet mixed (by kernel_rfl) ?_
    | refine ccdt (Opd.pl rfl) (by first | assumption | omega) ?_ | refine ccdf (Opd.pl rfl) (by first | assumption | omega) ?_ | refine ccnt (Opd.pl rfl) (by first | assumption | omega) ?_ | refine ccnf (Opd.pl rfl) (by first | assumption | omega) ?_ | refine ccbt (Opd.pl rfl) (by first | rfl | assumption) ?_ | refine ccbf (Opd.pl rfl) (by first | rfl | assumption) ?_ | refine ccnbt (Opd.pl rfl) (by assumption) ?_ | refine ccnbf (Opd.pl rfl) (by assumption) ?_
    | refine ccd (fun hh => ?_) (fun hh => ?_) | refine ccn (fun hh => ?_) (fun hh => ?_) | refine ccnb (fun hh => ?_) (fun hh => ?_) | refine cc (fun hh => ?_) (fun hh => ?_)
    | refine hc_skip ?_ | refine hc_ret ?_ | refine hc_exit ?_ | refine hc_block ?_ | refine at_then_ret ?_ | refine at_block_ret ?_ | refine at_block_exit ?_ | refine at_block_other rfl ?_ | refine at_then_exit ?_ | refine at_block ?_)
  exact ret1 ()
theorem c_eqEv (a0 a1 a2 a3 a4 a5 a6 a7 a8 a9 a10 a11 a12 b0 b1 b2 b3 b4 b5 b6 b7 b8 b9 b10 b11 b12 : Int) (w : World) : Calls Try.prog 48 #[.agg #[.int .i64 a0, .int .i64 a1, .int .i64 a2, .int .i64 a3, .int .i64 a4, .int .i64 a5, .int .i64 a6, .int .i64 a7, .int .i64 a8, .int .i64 a9, .int .i64 a10, .int .i64 a11, .int .i64 a12], .agg #[.int .i64 b0, .int .i64 b1, .int .i64 b2, .int .i64 b3, .int .i64 b4, .int .i64 b5, .int .i64 b6, .int .i64 b7, .int .i64 b8, .int .i64 b9, .int .i64 b10, .int .i64 b11, .int .i64 b12]] w (Ret (fun _ : Unit => .bool (decide ((⟨a0, a1, ⟨a2, ⟨a3, a4⟩, ⟨a5, ⟨a6, a7⟩, ⟨a8, a9⟩⟩⟩, ⟨a10, ⟨a11, a12⟩⟩⟩ : E.Ev) = ⟨b0, b1, ⟨b2, ⟨b3, b4⟩, ⟨b5, ⟨b6, b7⟩, ⟨b8, b9⟩⟩⟩, ⟨b10, ⟨b11, b12⟩⟩⟩))) (fun _ => []) w) := by
  refine enter (args := _) Try.func48 rfl Try.ntmps48 (by simp) ?_
  repeat' (first
    | refine hc_seq ?_ | refine hc_region ?_ | refine hv ?_ | refine hvg ?_ | refine hl_nil ?_ | refine at_then ?_
    | refine hcv (fun w _ => c_eqOp _ _ _ _ _ _ _ _ _ _ _ _ _ _ _ _ w) ?_ | refine qcv (fun w _ => c_eqOp _ _ _ _ _ _ _ _ _ _ _ _ _ _ _ _ w) ?_ | refine hcv (fun w _ => c_eqQuery _ _ _ _ _ _ w) ?_ | refine qcv (fun w _ => c_eqQuery _ _ _ _ _ _ w) ?_
    | refine hb (fun _ => ?_) | refine ha (fun _ => ?_) | refine hs ?_ | refine qv ?_ | refine qvg ?_ | refine hq_nil ?_ | refine hc_quiet mixed (by kernel_rfl) ?_
    | refine ccdt (Opd.pl rfl) (by first | assumption | omega) ?_ | refine ccdf (Opd.pl rfl) (by first | assumption | omega) ?_ | refine ccnt (Opd.pl rfl) (by first | assumption | omega) ?_ | refine ccnf (Opd.pl rfl) (by first | assumption | omega) ?_ | refine ccbt (Opd.pl rfl) (by first | rfl | assumption) ?_ | refine ccbf (Opd.pl rfl) (by first | rfl | assumption) ?_ | refine ccnbt (Opd.pl rfl) (by assumption) ?_ | refine ccnbf (Opd.pl rfl) (by assumption) ?_
    | refine ccd (fun hh => ?_) (fun hh => ?_) | refine ccn (fun hh => ?_) (fun hh => ?_) | refine ccnb (fun hh => ?_) (fun hh => ?_) | refine cc (fun hh => ?_) (fun hh => ?_)
    | refine hc_skip ?_ | refine hc_ret ?_ | refine hc_exit ?_ | refine hc_block ?_ | refine at_then_ret ?_ | refine at_block_ret ?_ | refine at_block_exit ?_ | refine at_block_other rfl ?_ | refine at_then_exit ?_ | refine at_block ?_)
  all_goals (refine ret0 ?_; simp_all)
theorem c_toIntS (v : Value) (xs : List Int) (hn : xs.length ≤ 1048576) (w : World) (hr : RdF w v xs) : Calls Try.prog 51 #[v] w (Ret (fun v' : Value => v') (fun v' => [ownF 3 v' xs]) w) := by
  refine enter (args := _) Try.func51 rfl Try.ntmps51 (by simp) ?_
  repeat' (first
    | refine hc_seq ?_ | refine hc_region ?_ | refine hv ?_ | refine hvg ?_ | refine hl_nil ?_ | refine at_then ?_
    | (refine hm (α := Int) 0 (fun v1 h1 => ?_) ?_; rotate_left; · exact ⟨by omega, by simp only [maxLen]; omega⟩)
    | refine hb (fun _ => ?_) | refine ha (fun _ => ?_) | refine hs ?_ | refine qv ?_ | refine qvg ?_ | refine hq_nil ?_ | refine hc_quiet mixed (by kernel_rfl) ?_
    | refine ccdt (Opd.pl rfl) (by first | assumption | omega) ?_ | refine ccdf (Opd.pl rfl) (by first | assumption | omega) ?_ | refine ccnt (Opd.pl rfl) (by first | assumption | omega) ?_ | refine ccnf (Opd.pl rfl) (by first | assumption | omega) ?_ | refine ccbt (Opd.pl rfl) (by first | rfl | assumption) ?_ | refine ccbf (Opd.pl rfl) (by first | rfl | assumption) ?_ | refine ccnbt (Opd.pl rfl) (by assumption) ?_ | refine ccnbf (Opd.pl rfl) (by assumption) ?_
    | refine ccd (fun hh => ?_) (fun hh => ?_) | refine ccn (fun hh => ?_) (fun hh => ?_) | refine ccnb (fun hh => ?_) (fun hh => ?_) | refine cc (fun hh => ?_) (fun hh => ?_)
    | refine hc_skip ?_ | refine hc_ret ?_ | refine hc_exit ?_ | refine hc_block ?_ | refine at_then_ret ?_ | refine at_block_ret ?_ | refine at_block_exit ?_ | refine at_block_other rfl ?_ | refine at_then_exit ?_ | refine at_block ?_)
  refine hc_loop (α := Nat) (fun k => k ≤ xs.length) (fun k => [(0, .pl v), (3, .pl v1), (4, .pl (.int .i64 (k : Int)))]) (fun k => [ownF 3 v1 (xs.take k ++ List.replicate (xs.length - k) 0)]) (fun k => xs.length - k) 0 (Nat.zero_le _) (FSub.cons rfl (FSub.cons rfl (FSub.cons rfl FSub.nil))) (KSub.pick (Pick.here _ _) (KSub.nil _)) (fun k hk0 => ?_)
  rcases Nat.lt_or_ge k xs.length with hlt | hge
  · obtain ⟨x, hx⟩ : ∃ x, xs[k]? = some x := ⟨_, List.getElem?_eq_getElem hlt⟩
    have hg := fill_get xs (0 : Int) hlt
    have hl : (xs.take k ++ List.replicate (xs.length - k) (0 : Int)).length = xs.length := by simp; omega
    repeat' (first
    | refine hc_seq ?_ | refine hc_region ?_ | refine hv ?_ | refine hvg ?_ | refine hl_nil ?_ | refine at_then ?_
    | refine ht (α := Int) x ?_ hg
    | refine hb (fun _ => ?_) | refine ha (fun _ => ?_) | refine hs ?_ | refine qv ?_ | refine qvg ?_ | refine hq_nil ?_ | refine hc_quiet mixed (by kernel_rfl) ?_
    | refine ccdt (Opd.pl rfl) (by first | assumption | omega) ?_ | refine ccdf (Opd.pl rfl) (by first | assumption | omega) ?_ | refine ccnt (Opd.pl rfl) (by first | assumption | omega) ?_ | refine ccnf (Opd.pl rfl) (by first | assumption | omega) ?_ | refine ccbt (Opd.pl rfl) (by first | rfl | assumption) ?_ | refine ccbf (Opd.pl rfl) (by first | rfl | assumption) ?_ | refine ccnbt (Opd.pl rfl) (by assumption) ?_ | refine ccnbf (Opd.pl rfl) (by assumption) ?_
    | refine ccd (fun hh => ?_) (fun hh => ?_) | refine ccn (fun hh => ?_) (fun hh => ?_) | refine ccnb (fun hh => ?_) (fun hh => ?_) | refine cc (fun hh => ?_) (fun hh => ?_)
    | refine hc_skip ?_ | refine hc_ret ?_ | refine hc_exit ?_ | refine hc_block ?_ | refine at_then_ret ?_ | refine at_block_ret ?_ | refine at_block_exit ?_ | refine at_block_other rfl ?_ | refine at_then_exit ?_ | refine at_block ?_)
    exact at_round (k + 1) (by omega) (by omega) (FSub.cons rfl (FSub.cons rfl (FSub.int rfl (by omega) FSub.nil))) (KSub.ownF (Pick.here _ _) (fill_set xs _ hx) (KSub.nil _))
  · repeat' (first
    | refine hc_seq ?_ | refine hc_region ?_ | refine hv ?_ | refine hvg ?_ | refine hl_nil ?_ | refine at_then ?_
    | refine hb (fun _ => ?_) | refine ha (fun _ => ?_) | refine hs ?_ | refine qv ?_ | refine qvg ?_ | refine hq_nil ?_ | refine hc_quiet mixed (by kernel_rfl) ?_
    | refine ccdt (Opd.pl rfl) (by first | assumption | omega) ?_ | refine ccdf (Opd.pl rfl) (by first | assumption | omega) ?_ | refine ccnt (Opd.pl rfl) (by first | assumption | omega) ?_ | refine ccnf (Opd.pl rfl) (by first | assumption | omega) ?_ | refine ccbt (Opd.pl rfl) (by first | rfl | assumption) ?_ | refine ccbf (Opd.pl rfl) (by first | rfl | assumption) ?_ | refine ccnbt (Opd.pl rfl) (by assumption) ?_ | refine ccnbf (Opd.pl rfl) (by assumption) ?_
    | refine ccd (fun hh => ?_) (fun hh => ?_) | refine ccn (fun hh => ?_) (fun hh => ?_) | refine ccnb (fun hh => ?_) (fun hh => ?_) | refine cc (fun hh => ?_) (fun hh => ?_)
    | refine hc_skip ?_ | refine hc_ret ?_ | refine hc_exit ?_ | refine hc_block ?_ | refine at_then_ret ?_ | refine at_block_ret ?_ | refine at_block_exit ?_ | refine at_block_other rfl ?_ | refine at_then_exit ?_ | refine at_block ?_)
    have : k = xs.length := by omega
    subst this
    exact ret1 _ rfl (KSub.ownF (Pick.here _ _) (by simp) (KSub.nil _))
theorem c_eqIntS (v u : Value) (xs ys : List Int) (w : World) (hr : RdF w v xs) (hq : RdF w u ys) : Calls Try.prog 52 #[v, u] w (Ret (fun _ : Unit => .bool (decide (xs = ys))) (fun _ => []) w) := by
  have m1 := hr.le
  have m2 := hq.le
  simp only [maxLen] at m1 m2
  refine enter (args := _) Try.func52 rfl Try.ntmps52 (by simp) ?_
  repeat' (first
    | refine hc_seq ?_ | refine hc_region ?_ | refine hv ?_ | refine hvg ?_ | refine hl_nil ?_ | refine at_then ?_
    | refine hb (fun _ => ?_) | refine ha (fun _ => ?_) | refine hs ?_ | refine qv ?_ | refine qvg ?_ | refine hq_nil ?_ | refine hc_quiet mixed (by kernel_rfl) ?_
    | refine ccdt (Opd.pl rfl) (by first | assumption | omega) ?_ | refine ccdf (Opd.pl rfl) (by first | assumption | omega) ?_ | refine ccnt (Opd.pl rfl) (by first | assumption | omega) ?_ | refine ccnf (Opd.pl rfl) (by first | assumption | omega) ?_ | refine ccbt (Opd.pl rfl) (by first | rfl | assumption) ?_ | refine ccbf (Opd.pl rfl) (by first | rfl | assumption) ?_ | refine ccnbt (Opd.pl rfl) (by assumption) ?_ | refine ccnbf (Opd.pl rfl) (by assumption) ?_
    | refine ccd (fun hh => ?_) (fun hh => ?_) | refine ccn (fun hh => ?_) (fun hh => ?_) | refine ccnb (fun hh => ?_) (fun hh => ?_) | refine cc (fun hh => ?_) (fun hh => ?_)
    | refine hc_skip ?_ | refine hc_ret ?_ | refine hc_exit ?_ | refine hc_block ?_ | refine at_then_ret ?_ | refine at_block_ret ?_ | refine at_block_exit ?_ | refine at_block_other rfl ?_ | refine at_then_exit ?_ | refine at_block ?_)
  · refine ret0 ?_
    simp only [Value.bool.injEq]
    symm
    apply decide_eq_false
    rintro rfl
    simp_all
  have hlen : xs.length = ys.length := by omega
  refine hc_loop (α := Nat) (fun k => k ≤ xs.length ∧ xs.take k = ys.take k) (fun k => [(0, .pl v), (1, .pl u), (5, .pl (.int .i64 (k : Int)))]) (fun k => []) (fun k => xs.length - k) 0 ⟨Nat.zero_le _, rfl⟩ (FSub.cons rfl (FSub.cons rfl (FSub.cons rfl FSub.nil))) (KSub.nil _) (fun k hk0 => ?_)
  obtain ⟨hk1, hk2⟩ := hk0
  rcases Nat.lt_or_ge k xs.length with hlt | hge
  · obtain ⟨x, hx⟩ : ∃ x, xs[k]? = some x := ⟨_, List.getElem?_eq_getElem hlt⟩
    obtain ⟨y, hy⟩ : ∃ y, ys[k]? = some y := ⟨_, List.getElem?_eq_getElem (hlen ▸ hlt)⟩
    have hlt' : k < ys.length := hlen ▸ hlt
    repeat' (first
    | refine hc_seq ?_ | refine hc_region ?_ | refine hv ?_ | refine hvg ?_ | refine hl_nil ?_ | refine at_then ?_
    | refine hb (fun _ => ?_) | refine ha (fun _ => ?_) | refine hs ?_ | refine qv ?_ | refine qvg ?_ | refine hq_nil ?_ | refine hc_quiet mixed (by kernel_rfl) ?_
    | refine ccdt (Opd.pl rfl) (by first | assumption | omega) ?_ | refine ccdf (Opd.pl rfl) (by first | assumption | omega) ?_ | refine ccnt (Opd.pl rfl) (by first | assumption | omega) ?_ | refine ccnf (Opd.pl rfl) (by first | assumption | omega) ?_ | refine ccbt (Opd.pl rfl) (by first | rfl | assumption) ?_ | refine ccbf (Opd.pl rfl) (by first | rfl | assumption) ?_ | refine ccnbt (Opd.pl rfl) (by assumption) ?_ | refine ccnbf (Opd.pl rfl) (by assumption) ?_
    | refine ccd (fun hh => ?_) (fun hh => ?_) | refine ccn (fun hh => ?_) (fun hh => ?_) | refine ccnb (fun hh => ?_) (fun hh => ?_) | refine cc (fun hh => ?_) (fun hh => ?_)
    | refine hc_skip ?_ | refine hc_ret ?_ | refine hc_exit ?_ | refine hc_block ?_ | refine at_then_ret ?_ | refine at_block_ret ?_ | refine at_block_exit ?_ | refine at_block_other rfl ?_ | refine at_then_exit ?_ | refine at_block ?_)
    · refine ret0 ?_
      simp only [Value.bool.injEq]
      symm
      apply decide_eq_false
      rintro rfl
      rw [hx] at hy
      injection hy with hy
      subst hy
      simp at hh
    · refine at_round (k + 1) ⟨by omega, ?_⟩ (by omega) (FSub.cons rfl (FSub.cons rfl (FSub.int rfl (by omega) FSub.nil))) (KSub.nil _)
      have hxy : x = y := by first | exact hh | simpa using hh
      rw [List.take_add_one, List.take_add_one, hk2, hx, hy, hxy]
  · repeat' (first
    | refine hc_seq ?_ | refine hc_region ?_ | refine hv ?_ | refine hvg ?_ | refine hl_nil ?_ | refine at_then ?_
    | refine hb (fun _ => ?_) | refine ha (fun _ => ?_) | refine hs ?_ | refine qv ?_ | refine qvg ?_ | refine hq_nil ?_ | refine hc_quiet mixed (by kernel_rfl) ?_
    | refine ccdt (Opd.pl rfl) (by first | assumption | omega) ?_ | refine ccdf (Opd.pl rfl) (by first | assumption | omega) ?_ | refine ccnt (Opd.pl rfl) (by first | assumption | omega) ?_ | refine ccnf (Opd.pl rfl) (by first | assumption | omega) ?_ | refine ccbt (Opd.pl rfl) (by first | rfl | assumption) ?_ | refine ccbf (Opd.pl rfl) (by first | rfl | assumption) ?_ | refine ccnbt (Opd.pl rfl) (by assumption) ?_ | refine ccnbf (Opd.pl rfl) (by assumption) ?_
    | refine ccd (fun hh => ?_) (fun hh => ?_) | refine ccn (fun hh => ?_) (fun hh => ?_) | refine ccnb (fun hh => ?_) (fun hh => ?_) | refine cc (fun hh => ?_) (fun hh => ?_)
    | refine hc_skip ?_ | refine hc_ret ?_ | refine hc_exit ?_ | refine hc_block ?_ | refine at_then_ret ?_ | refine at_block_ret ?_ | refine at_block_exit ?_ | refine at_block_other rfl ?_ | refine at_then_exit ?_ | refine at_block ?_)
    refine ret0 ?_
    simp only [Value.bool.injEq]
    symm
    apply decide_eq_true
    rw [List.take_of_length_le hge, List.take_of_length_le (by omega)] at hk2
    exact hk2
theorem c_szIntS (v : Value) (xs : List Int) (k : Int) (hk : 0 ≤ k ∧ k ≤ 1048576) (w : World) (hr : RdF w v xs) : Calls Try.prog 50 #[v, .int .i64 k] w (Ret (fun _ : Unit => .int .i64 (if k - xs.length < 0 then -1 else k - xs.length)) (fun _ => []) w) := by
  have m1 := hr.le
  simp only [maxLen] at m1
  refine enter (args := _) Try.func50 rfl Try.ntmps50 (by simp) ?_
  repeat' (first
    | refine hc_seq ?_ | refine hc_region ?_ | refine hv ?_ | refine hvg ?_ | refine hl_nil ?_ | refine at_then ?_
    | refine hb (fun _ => ?_) | refine ha (fun _ => ?_) | refine hs ?_ | refine qv ?_ | refine qvg ?_ | refine hq_nil ?_ | refine hc_quiet mixed (by kernel_rfl) ?_
    | refine ccdt (Opd.pl rfl) (by first | assumption | omega) ?_ | refine ccdf (Opd.pl rfl) (by first | assumption | omega) ?_ | refine ccnt (Opd.pl rfl) (by first | assumption | omega) ?_ | refine ccnf (Opd.pl rfl) (by first | assumption | omega) ?_ | refine ccbt (Opd.pl rfl) (by first | rfl | assumption) ?_ | refine ccbf (Opd.pl rfl) (by first | rfl | assumption) ?_ | refine ccnbt (Opd.pl rfl) (by assumption) ?_ | refine ccnbf (Opd.pl rfl) (by assumption) ?_
    | refine ccd (fun hh => ?_) (fun hh => ?_) | refine ccn (fun hh => ?_) (fun hh => ?_) | refine ccnb (fun hh => ?_) (fun hh => ?_) | refine cc (fun hh => ?_) (fun hh => ?_)
    | refine hc_skip ?_ | refine hc_ret ?_ | refine hc_exit ?_ | refine hc_block ?_ | refine at_then_ret ?_ | refine at_block_ret ?_ | refine at_block_exit ?_ | refine at_block_other rfl ?_ | refine at_then_exit ?_ | refine at_block ?_)
  · refine ret0 ?_; rw [if_pos (by omega)]
  · refine ret0 ?_; rw [if_neg (by omega)]
theorem c_toPersonS (v : Value) (xs : List E.Pe) (hn : xs.length ≤ 1048576) (w : World) (hr : RdF w v xs) : Calls Try.prog 21 #[v] w (Ret (fun v' : Value => v') (fun v' => [ownF 25 v' xs]) w) := by
  refine enter (args := _) Try.func21 rfl Try.ntmps21 (by simp) ?_
  repeat' (first
    | refine hc_seq ?_ | refine hc_region ?_ | refine hv ?_ | refine hvg ?_ | refine hl_nil ?_ | refine at_then ?_
    | (refine hm (α := E.Pe) ⟨0, 0, 0⟩ (fun v1 h1 => ?_) ?_; rotate_left; · exact ⟨by omega, by simp only [maxLen]; omega⟩)
    | refine hb (fun _ => ?_) | refine ha (fun _ => ?_) | refine hs ?_ | refine qv ?_ | refine qvg ?_ | refine hq_nil ?_ | refine hc_quiet mixed (by kernel_rfl) ?_
    | refine ccdt (Opd.pl rfl) (by first | assumption | omega) ?_ | refine ccdf (Opd.pl rfl) (by first | assumption | omega) ?_ | refine ccnt (Opd.pl rfl) (by first | assumption | omega) ?_ | refine ccnf (Opd.pl rfl) (by first | assumption | omega) ?_ | refine ccbt (Opd.pl rfl) (by first | rfl | assumption) ?_ | refine ccbf (Opd.pl rfl) (by first | rfl | assumption) ?_ | refine ccnbt (Opd.pl rfl) (by assumption) ?_ | refine ccnbf (Opd.pl rfl) (by assumption) ?_
    | refine ccd (fun hh => ?_) (fun hh => ?_) | refine ccn (fun hh => ?_) (fun hh => ?_) | refine ccnb (fun hh => ?_) (fun hh => ?_) | refine cc (fun hh => ?_) (fun hh => ?_)
    | refine hc_skip ?_ | refine hc_ret ?_ | refine hc_exit ?_ | refine hc_block ?_ | refine at_then_ret ?_ | refine at_block_ret ?_ | refine at_block_exit ?_ | refine at_block_other rfl ?_ | refine at_then_exit ?_ | refine at_block ?_)
  refine hc_loop (α := Nat) (fun k => k ≤ xs.length) (fun k => [(0, .pl v), (3, .pl v1), (4, .pl (.int .i64 (k : Int)))]) (fun k => [ownF 25 v1 (xs.take k ++ List.replicate (xs.length - k) ⟨0, 0, 0⟩)]) (fun k => xs.length - k) 0 (Nat.zero_le _) (FSub.cons rfl (FSub.cons rfl (FSub.cons rfl FSub.nil))) (KSub.pick (Pick.here _ _) (KSub.nil _)) (fun k hk0 => ?_)
  rcases Nat.lt_or_ge k xs.length with hlt | hge
  · obtain ⟨x, hx⟩ : ∃ x, xs[k]? = some x := ⟨_, List.getElem?_eq_getElem hlt⟩
    have hg := fill_get xs (⟨0, 0, 0⟩ : E.Pe) hlt
    have hl : (xs.take k ++ List.replicate (xs.length - k) (⟨0, 0, 0⟩ : E.Pe)).length = xs.length := by simp; omega
    repeat' (first
    | refine hc_seq ?_ | refine hc_region ?_ | refine hv ?_ | refine hvg ?_ | refine hl_nil ?_ | refine at_then ?_
    | refine ht (α := E.Pe) x ?_ hg | refine hcv (fun w _ => c_toPerson _ _ _ w) ?_
    | refine hb (fun _ => ?_) | refine ha (fun _ => ?_) | refine hs ?_ | refine qv ?_ | refine qvg ?_ | refine hq_nil ?_ | refine hc_quiet mixed (by kernel_rfl) ?_
    | refine ccdt (Opd.pl rfl) (by first | assumption | omega) ?_ | refine ccdf (Opd.pl rfl) (by first | assumption | omega) ?_ | refine ccnt (Opd.pl rfl) (by first | assumption | omega) ?_ | refine ccnf (Opd.pl rfl) (by first | assumption | omega) ?_ | refine ccbt (Opd.pl rfl) (by first | rfl | assumption) ?_ | refine ccbf (Opd.pl rfl) (by first | rfl | assumption) ?_ | refine ccnbt (Opd.pl rfl) (by assumption) ?_ | refine ccnbf (Opd.pl rfl) (by assumption) ?_
    | refine ccd (fun hh => ?_) (fun hh => ?_) | refine ccn (fun hh => ?_) (fun hh => ?_) | refine ccnb (fun hh => ?_) (fun hh => ?_) | refine cc (fun hh => ?_) (fun hh => ?_)
    | refine hc_skip ?_ | refine hc_ret ?_ | refine hc_exit ?_ | refine hc_block ?_ | refine at_then_ret ?_ | refine at_block_ret ?_ | refine at_block_exit ?_ | refine at_block_other rfl ?_ | refine at_then_exit ?_ | refine at_block ?_)
    exact at_round (k + 1) (by omega) (by omega) (FSub.cons rfl (FSub.cons rfl (FSub.int rfl (by omega) FSub.nil))) (KSub.ownF (Pick.here _ _) (fill_set xs _ hx) (KSub.nil _))
  · repeat' (first
    | refine hc_seq ?_ | refine hc_region ?_ | refine hv ?_ | refine hvg ?_ | refine hl_nil ?_ | refine at_then ?_
    | refine hb (fun _ => ?_) | refine ha (fun _ => ?_) | refine hs ?_ | refine qv ?_ | refine qvg ?_ | refine hq_nil ?_ | refine hc_quiet mixed (by kernel_rfl) ?_
    | refine ccdt (Opd.pl rfl) (by first | assumption | omega) ?_ | refine ccdf (Opd.pl rfl) (by first | assumption | omega) ?_ | refine ccnt (Opd.pl rfl) (by first | assumption | omega) ?_ | refine ccnf (Opd.pl rfl) (by first | assumption | omega) ?_ | refine ccbt (Opd.pl rfl) (by first | rfl | assumption) ?_ | refine ccbf (Opd.pl rfl) (by first | rfl | assumption) ?_ | refine ccnbt (Opd.pl rfl) (by assumption) ?_ | refine ccnbf (Opd.pl rfl) (by assumption) ?_
    | refine ccd (fun hh => ?_) (fun hh => ?_) | refine ccn (fun hh => ?_) (fun hh => ?_) | refine ccnb (fun hh => ?_) (fun hh => ?_) | refine cc (fun hh => ?_) (fun hh => ?_)
    | refine hc_skip ?_ | refine hc_ret ?_ | refine hc_exit ?_ | refine hc_block ?_ | refine at_then_ret ?_ | refine at_block_ret ?_ | refine at_block_exit ?_ | refine at_block_other rfl ?_ | refine at_then_exit ?_ | refine at_block ?_)
    have : k = xs.length := by omega
    subst this
    exact ret1 _ rfl (KSub.ownF (Pick.here _ _) (by simp) (KSub.nil _))
theorem c_eqPersonS (v u : Value) (xs ys : List E.Pe) (w : World) (hr : RdF w v xs) (hq : RdF w u ys) : Calls Try.prog 25 #[v, u] w (Ret (fun _ : Unit => .bool (decide (xs = ys))) (fun _ => []) w) := by
  have m1 := hr.le
  have m2 := hq.le
  simp only [maxLen] at m1 m2
  refine enter (args := _) Try.func25 rfl Try.ntmps25 (by simp) ?_
  repeat' (first
    | refine hc_seq ?_ | refine hc_region ?_ | refine hv ?_ | refine hvg ?_ | refine hl_nil ?_ | refine at_then ?_
    | refine hb (fun _ => ?_) | refine ha (fun _ => ?_) | refine hs ?_ | refine qv ?_ | refine qvg ?_ | refine hq_nil ?_ | refine hc_quiet mixed (by kernel_rfl) ?_
    | refine ccdt (Opd.pl rfl) (by first | assumption | omega) ?_ | refine ccdf (Opd.pl rfl) (by first | assumption | omega) ?_ | refine ccnt (Opd.pl rfl) (by first | assumption | omega) ?_ | refine ccnf (Opd.pl rfl) (by first | assumption | omega) ?_ | refine ccbt (Opd.pl rfl) (by first | rfl | assumption) ?_ | refine ccbf (Opd.pl rfl) (by first | rfl | assumption) ?_ | refine ccnbt (Opd.pl rfl) (by assumption) ?_ | refine ccnbf (Opd.pl rfl) (by assumption) ?_
    | refine ccd (fun hh => ?_) (fun hh => ?_) | refine ccn (fun hh => ?_) (fun hh => ?_) | refine ccnb (fun hh => ?_) (fun hh => ?_) | refine cc (fun hh => ?_) (fun hh => ?_)
    | refine hc_skip ?_ | refine hc_ret ?_ | refine hc_exit ?_ | refine hc_block ?_ | refine at_then_ret ?_ | refine at_block_ret ?_ | refine at_block_exit ?_ | refine at_block_other rfl ?_ | refine at_then_exit ?_ | refine at_block ?_)
  · refine ret0 ?_
    simp only [Value.bool.injEq]
    symm
    apply decide_eq_false
    rintro rfl
    simp_all
  have hlen : xs.length = ys.length := by omega
  refine hc_loop (α := Nat) (fun k => k ≤ xs.length ∧ xs.take k = ys.take k) (fun k => [(0, .pl v), (1, .pl u), (5, .pl (.int .i64 (k : Int)))]) (fun k => []) (fun k => xs.length - k) 0 ⟨Nat.zero_le _, rfl⟩ (FSub.cons rfl (FSub.cons rfl (FSub.cons rfl FSub.nil))) (KSub.nil _) (fun k hk0 => ?_)
  obtain ⟨hk1, hk2⟩ := hk0
  rcases Nat.lt_or_ge k xs.length with hlt | hge
  · obtain ⟨x, hx⟩ : ∃ x, xs[k]? = some x := ⟨_, List.getElem?_eq_getElem hlt⟩
    obtain ⟨y, hy⟩ : ∃ y, ys[k]? = some y := ⟨_, List.getElem?_eq_getElem (hlen ▸ hlt)⟩
    have hlt' : k < ys.length := hlen ▸ hlt
    repeat' (first
    | refine hc_seq ?_ | refine hc_region ?_ | refine hv ?_ | refine hvg ?_ | refine hl_nil ?_ | refine at_then ?_
    | refine hcv (fun w _ => c_eqPerson _ _ _ _ _ _ w) ?_ | refine qcv (fun w _ => c_eqPerson _ _ _ _ _ _ w) ?_
    | refine hb (fun _ => ?_) | refine ha (fun _ => ?_) | refine hs ?_ | refine qv ?_ | refine qvg ?_ | refine hq_nil ?_ | refine hc_quiet mixed (by kernel_rfl) ?_
    | refine ccdt (Opd.pl rfl) (by first | assumption | omega) ?_ | refine ccdf (Opd.pl rfl) (by first | assumption | omega) ?_ | refine ccnt (Opd.pl rfl) (by first | assumption | omega) ?_ | refine ccnf (Opd.pl rfl) (by first | assumption | omega) ?_ | refine ccbt (Opd.pl rfl) (by first | rfl | assumption) ?_ | refine ccbf (Opd.pl rfl) (by first | rfl | assumption) ?_ | refine ccnbt (Opd.pl rfl) (by assumption) ?_ | refine ccnbf (Opd.pl rfl) (by assumption) ?_
    | refine ccd (fun hh => ?_) (fun hh => ?_) | refine ccn (fun hh => ?_) (fun hh => ?_) | refine ccnb (fun hh => ?_) (fun hh => ?_) | refine cc (fun hh => ?_) (fun hh => ?_)
    | refine hc_skip ?_ | refine hc_ret ?_ | refine hc_exit ?_ | refine hc_block ?_ | refine at_then_ret ?_ | refine at_block_ret ?_ | refine at_block_exit ?_ | refine at_block_other rfl ?_ | refine at_then_exit ?_ | refine at_block ?_)
    · refine ret0 ?_
      simp only [Value.bool.injEq]
      symm
      apply decide_eq_false
      rintro rfl
      rw [hx] at hy
      injection hy with hy
      subst hy
      simp at hh
    · refine at_round (k + 1) ⟨by omega, ?_⟩ (by omega) (FSub.cons rfl (FSub.cons rfl (FSub.int rfl (by omega) FSub.nil))) (KSub.nil _)
      have hxy : x = y := by first | exact hh | simpa using hh
      rw [List.take_add_one, List.take_add_one, hk2, hx, hy, hxy]
  · repeat' (first
    | refine hc_seq ?_ | refine hc_region ?_ | refine hv ?_ | refine hvg ?_ | refine hl_nil ?_ | refine at_then ?_
    | refine hb (fun _ => ?_) | refine ha (fun _ => ?_) | refine hs ?_ | refine qv ?_ | refine qvg ?_ | refine hq_nil ?_ | refine hc_quiet mixed (by kernel_rfl) ?_
    | refine ccdt (Opd.pl rfl) (by first | assumption | omega) ?_ | refine ccdf (Opd.pl rfl) (by first | assumption | omega) ?_ | refine ccnt (Opd.pl rfl) (by first | assumption | omega) ?_ | refine ccnf (Opd.pl rfl) (by first | assumption | omega) ?_ | refine ccbt (Opd.pl rfl) (by first | rfl | assumption) ?_ | refine ccbf (Opd.pl rfl) (by first | rfl | assumption) ?_ | refine ccnbt (Opd.pl rfl) (by assumption) ?_ | refine ccnbf (Opd.pl rfl) (by assumption) ?_
    | refine ccd (fun hh => ?_) (fun hh => ?_) | refine ccn (fun hh => ?_) (fun hh => ?_) | refine ccnb (fun hh => ?_) (fun hh => ?_) | refine cc (fun hh => ?_) (fun hh => ?_)
    | refine hc_skip ?_ | refine hc_ret ?_ | refine hc_exit ?_ | refine hc_block ?_ | refine at_then_ret ?_ | refine at_block_ret ?_ | refine at_block_exit ?_ | refine at_block_other rfl ?_ | refine at_then_exit ?_ | refine at_block ?_)
    refine ret0 ?_
    simp only [Value.bool.injEq]
    symm
    apply decide_eq_true
    rw [List.take_of_length_le hge, List.take_of_length_le (by omega)] at hk2
    exact hk2
theorem c_szPersonS (v : Value) (xs : List E.Pe) (k : Int) (hk : 0 ≤ k ∧ k ≤ 1048576) (w : World) (hr : RdF w v xs) : Calls Try.prog 18 #[v, .int .i64 k] w (Ret (fun _ : Unit => .int .i64 (if k - xs.length < 0 then -1 else k - xs.length)) (fun _ => []) w) := by
  have m1 := hr.le
  simp only [maxLen] at m1
  refine enter (args := _) Try.func18 rfl Try.ntmps18 (by simp) ?_
  repeat' (first
    | refine hc_seq ?_ | refine hc_region ?_ | refine hv ?_ | refine hvg ?_ | refine hl_nil ?_ | refine at_then ?_
    | refine hb (fun _ => ?_) | refine ha (fun _ => ?_) | refine hs ?_ | refine qv ?_ | refine qvg ?_ | refine hq_nil ?_ | refine hc_quiet mixed (by kernel_rfl) ?_
    | refine ccdt (Opd.pl rfl) (by first | assumption | omega) ?_ | refine ccdf (Opd.pl rfl) (by first | assumption | omega) ?_ | refine ccnt (Opd.pl rfl) (by first | assumption | omega) ?_ | refine ccnf (Opd.pl rfl) (by first | assumption | omega) ?_ | refine ccbt (Opd.pl rfl) (by first | rfl | assumption) ?_ | refine ccbf (Opd.pl rfl) (by first | rfl | assumption) ?_ | refine ccnbt (Opd.pl rfl) (by assumption) ?_ | refine ccnbf (Opd.pl rfl) (by assumption) ?_
    | refine ccd (fun hh => ?_) (fun hh => ?_) | refine ccn (fun hh => ?_) (fun hh => ?_) | refine ccnb (fun hh => ?_) (fun hh => ?_) | refine cc (fun hh => ?_) (fun hh => ?_)
    | refine hc_skip ?_ | refine hc_ret ?_ | refine hc_exit ?_ | refine hc_block ?_ | refine at_then_ret ?_ | refine at_block_ret ?_ | refine at_block_exit ?_ | refine at_block_other rfl ?_ | refine at_then_exit ?_ | refine at_block ?_)
  · refine ret0 ?_; rw [if_pos (by omega)]
  · refine ret0 ?_; rw [if_neg (by omega)]
theorem c_markPersonS {w0 : World} {K K' : List Ck} {v : Value} {xs : List E.Pe} (hp : Pick K (ownF 25 v xs) K') (k : Int) (hk : 0 ≤ k ∧ k ≤ 1000000000000) (hn : xs.length ≤ 10000000) (w : World) (hw : KOk w0 K w) :
    Calls Try.prog 26 #[v, .int .i64 k] w (RetK (fun _ : Unit => .int .i64 (k + ((xs.length * 3 : Nat) : Int))) (fun _ => ownF 25 v (marks E.Pe xs.length k) :: K') w0) := by
  refine enterK (args := _) (hw.pick hp) Try.func26 rfl Try.ntmps26 (by simp) ?_
  repeat' (first
    | refine hc_seq ?_ | refine hc_region ?_ | refine hv ?_ | refine hvg ?_ | refine hl_nil ?_ | refine at_then ?_
    | refine hb (fun _ => ?_) | refine ha (fun _ => ?_) | refine hs ?_ | refine qv ?_ | refine qvg ?_ | refine hq_nil ?_ | refine hc_quiet mixed (by kernel_rfl) ?_
    | refine ccdt (Opd.pl rfl) (by first | assumption | omega) ?_ | refine ccdf (Opd.pl rfl) (by first | assumption | omega) ?_ | refine ccnt (Opd.pl rfl) (by first | assumption | omega) ?_ | refine ccnf (Opd.pl rfl) (by first | assumption | omega) ?_ | refine ccbt (Opd.pl rfl) (by first | rfl | assumption) ?_ | refine ccbf (Opd.pl rfl) (by first | rfl | assumption) ?_ | refine ccnbt (Opd.pl rfl) (by assumption) ?_ | refine ccnbf (Opd.pl rfl) (by assumption) ?_
    | refine ccd (fun hh => ?_) (fun hh => ?_) | refine ccn (fun hh => ?_) (fun hh => ?_) | refine ccnb (fun hh => ?_) (fun hh => ?_) | refine cc (fun hh => ?_) (fun hh => ?_)
    | refine hc_skip ?_ | refine hc_ret ?_ | refine hc_exit ?_ | refine hc_block ?_ | refine at_then_ret ?_ | refine at_block_ret ?_ | refine at_block_exit ?_ | refine at_block_other rfl ?_ | refine at_then_exit ?_ | refine at_block ?_)
  refine hc_loop (α := Nat) (fun i => i ≤ xs.length) (fun i => [(0, .pl v), (1, .pl (.int .i64 (k + ((i * 3 : Nat) : Int)))), (5, .pl (.int .i64 (i : Int)))]) (fun i => ownF 25 v (marks E.Pe i k ++ xs.drop i) :: K') (fun i => xs.length - i) 0 (Nat.zero_le _) (FSub.cons rfl (FSub.int rfl (by omega) (FSub.int rfl (by omega) FSub.nil))) (KSub.ownF (Pick.here _ _) (by simp [marks]) (KSub.refl _)) (fun i hi => ?_)
  have hl : (marks E.Pe i k ++ xs.drop i).length = xs.length := by simp [marks_length]; omega
  rcases Nat.lt_or_ge i xs.length with hlt | hge
  · obtain ⟨x, hx⟩ : ∃ x, xs[i]? = some x := ⟨_, List.getElem?_eq_getElem hlt⟩
    have hg := mark_get (k := k) hx
    generalize hm : k + ((i * 3 : Nat) : Int) = m
    have hm2 : 0 ≤ m ∧ m ≤ 1000200000000 := by omega
    repeat' (first
    | refine hc_seq ?_ | refine hc_region ?_ | refine hv ?_ | refine hvg ?_ | refine hl_nil ?_ | refine at_then ?_
    | (refine hts (α := E.Pe) (⟨(m), x.z, x.q⟩ : E.Pe) (fun R1 hR1 hl1 hg1 => ?_) hg) | (refine hts (α := E.Pe) (⟨(m), (m + 1), x.q⟩ : E.Pe) (fun R2 hR2 hl2 hg2 => ?_) hg1) | (refine hts (α := E.Pe) (⟨(m), (m + 1), (m + 1 + 1)⟩ : E.Pe) (fun R3 hR3 hl3 hg3 => ?_) hg2)
    | refine hb (fun _ => ?_) | refine ha (fun _ => ?_) | refine hs ?_ | refine qv ?_ | refine qvg ?_ | refine hq_nil ?_ | refine hc_quiet mixed (by kernel_rfl) ?_
    | refine ccdt (Opd.pl rfl) (by first | assumption | omega) ?_ | refine ccdf (Opd.pl rfl) (by first | assumption | omega) ?_ | refine ccnt (Opd.pl rfl) (by first | assumption | omega) ?_ | refine ccnf (Opd.pl rfl) (by first | assumption | omega) ?_ | refine ccbt (Opd.pl rfl) (by first | rfl | assumption) ?_ | refine ccbf (Opd.pl rfl) (by first | rfl | assumption) ?_ | refine ccnbt (Opd.pl rfl) (by assumption) ?_ | refine ccnbf (Opd.pl rfl) (by assumption) ?_
    | refine ccd (fun hh => ?_) (fun hh => ?_) | refine ccn (fun hh => ?_) (fun hh => ?_) | refine ccnb (fun hh => ?_) (fun hh => ?_) | refine cc (fun hh => ?_) (fun hh => ?_)
    | refine hc_skip ?_ | refine hc_ret ?_ | refine hc_exit ?_ | refine hc_block ?_ | refine at_then_ret ?_ | refine at_block_ret ?_ | refine at_block_exit ?_ | refine at_block_other rfl ?_ | refine at_then_exit ?_ | refine at_block ?_)
    refine at_round (i + 1) (by omega) (by omega) (FSub.cons rfl (FSub.int rfl (by omega) (FSub.int rfl (by omega) FSub.nil))) (KSub.ownF (Pick.here _ _) ?_ (KSub.refl _))
    rw [← mark_set (k := k) hx]
    subst hm
    rw [hR3, hR2, hR1]
    simp [Mark.el, Mark.n, Int.add_assoc, List.set_set]
  · repeat' (first
    | refine hc_seq ?_ | refine hc_region ?_ | refine hv ?_ | refine hvg ?_ | refine hl_nil ?_ | refine at_then ?_
    | refine hb (fun _ => ?_) | refine ha (fun _ => ?_) | refine hs ?_ | refine qv ?_ | refine qvg ?_ | refine hq_nil ?_ | refine hc_quiet mixed (by kernel_rfl) ?_
    | refine ccdt (Opd.pl rfl) (by first | assumption | omega) ?_ | refine ccdf (Opd.pl rfl) (by first | assumption | omega) ?_ | refine ccnt (Opd.pl rfl) (by first | assumption | omega) ?_ | refine ccnf (Opd.pl rfl) (by first | assumption | omega) ?_ | refine ccbt (Opd.pl rfl) (by first | rfl | assumption) ?_ | refine ccbf (Opd.pl rfl) (by first | rfl | assumption) ?_ | refine ccnbt (Opd.pl rfl) (by assumption) ?_ | refine ccnbf (Opd.pl rfl) (by assumption) ?_
    | refine ccd (fun hh => ?_) (fun hh => ?_) | refine ccn (fun hh => ?_) (fun hh => ?_) | refine ccnb (fun hh => ?_) (fun hh => ?_) | refine cc (fun hh => ?_) (fun hh => ?_)
    | refine hc_skip ?_ | refine hc_ret ?_ | refine hc_exit ?_ | refine hc_block ?_ | refine at_then_ret ?_ | refine at_block_ret ?_ | refine at_block_exit ?_ | refine at_block_other rfl ?_ | refine at_then_exit ?_ | refine at_block ?_)
    have : i = xs.length := by omega
    subst this
    exact ret1K () rfl (KSub.ownF (Pick.here _ _) (by simp) (KSub.refl _))
theorem c_toEvS (v : Value) (xs : List E.Ev) (hn : xs.length ≤ 1048576) (w : World) (hr : RdF w v xs) : Calls Try.prog 22 #[v] w (Ret (fun v' : Value => v') (fun v' => [ownF 76 v' xs]) w) := by
  refine enter (args := _) Try.func22 rfl Try.ntmps22 (by simp) ?_
  repeat' (first
    | refine hc_seq ?_ | refine hc_region ?_ | refine hv ?_ | refine hvg ?_ | refine hl_nil ?_ | refine at_then ?_
    | (refine hm (α := E.Ev) ⟨0, 0, ⟨0, ⟨0, 0⟩, ⟨0, ⟨0, 0⟩, ⟨0, 0⟩⟩⟩, ⟨0, ⟨0, 0⟩⟩⟩ (fun v1 h1 => ?_) ?_; rotate_left; · exact ⟨by omega, by simp only [maxLen]; omega⟩)
    | refine hb (fun _ => ?_) | refine ha (fun _ => ?_) | refine hs ?_ | refine qv ?_ | refine qvg ?_ | refine hq_nil ?_ | refine hc_quiet mixed (by kernel_rfl) ?_
    | refine ccdt (Opd.pl rfl) (by first | assumption | omega) ?_ | refine ccdf (Opd.pl rfl) (by first | assumption | omega) ?_ | refine ccnt (Opd.pl rfl) (by first | assumption | omega) ?_ | refine ccnf (Opd.pl rfl) (by first | assumption | omega) ?_ | refine ccbt (Opd.pl rfl) (by first | rfl | assumption) ?_ | refine ccbf (Opd.pl rfl) (by first | rfl | assumption) ?_ | refine ccnbt (Opd.pl rfl) (by assumption) ?_ | refine ccnbf (Opd.pl rfl) (by assumption) ?_
    | refine ccd (fun hh => ?_) (fun hh => ?_) | refine ccn (fun hh => ?_) (fun hh => ?_) | refine ccnb (fun hh => ?_) (fun hh => ?_) | refine cc (fun hh => ?_) (fun hh => ?_)
    | refine hc_skip ?_ | refine hc_ret ?_ | refine hc_exit ?_ | refine hc_block ?_ | refine at_then_ret ?_ | refine at_block_ret ?_ | refine at_block_exit ?_ | refine at_block_other rfl ?_ | refine at_then_exit ?_ | refine at_block ?_)
  refine hc_loop (α := Nat) (fun k => k ≤ xs.length) (fun k => [(0, .pl v), (3, .pl v1), (4, .pl (.int .i64 (k : Int)))]) (fun k => [ownF 76 v1 (xs.take k ++ List.replicate (xs.length - k) ⟨0, 0, ⟨0, ⟨0, 0⟩, ⟨0, ⟨0, 0⟩, ⟨0, 0⟩⟩⟩, ⟨0, ⟨0, 0⟩⟩⟩)]) (fun k => xs.length - k) 0 (Nat.zero_le _) (FSub.cons rfl (FSub.cons rfl (FSub.cons rfl FSub.nil))) (KSub.pick (Pick.here _ _) (KSub.nil _)) (fun k hk0 => ?_)
  rcases Nat.lt_or_ge k xs.length with hlt | hge
  · obtain ⟨x, hx⟩ : ∃ x, xs[k]? = some x := ⟨_, List.getElem?_eq_getElem hlt⟩
    have hg := fill_get xs (⟨0, 0, ⟨0, ⟨0, 0⟩, ⟨0, ⟨0, 0⟩, ⟨0, 0⟩⟩⟩, ⟨0, ⟨0, 0⟩⟩⟩ : E.Ev) hlt
    have hl : (xs.take k ++ List.replicate (xs.length - k) (⟨0, 0, ⟨0, ⟨0, 0⟩, ⟨0, ⟨0, 0⟩, ⟨0, 0⟩⟩⟩, ⟨0, ⟨0, 0⟩⟩⟩ : E.Ev)).length = xs.length := by simp; omega
    repeat' (first
    | refine hc_seq ?_ | refine hc_region ?_ | refine hv ?_ | refine hvg ?_ | refine hl_nil ?_ | refine at_then ?_
    | refine ht (α := E.Ev) x ?_ hg | refine hcv (fun w _ => c_toEv _ _ _ _ _ _ _ _ _ _ _ _ _ w) ?_
    | refine hb (fun _ => ?_) | refine ha (fun _ => ?_) | refine hs ?_ | refine qv ?_ | refine qvg ?_ | refine hq_nil ?_ | refine hc_quiet mixed (by kernel_rfl) ?_
    | refine ccdt (Opd.pl rfl) (by first | assumption | omega) ?_ | refine ccdf (Opd.pl rfl) (by first | assumption | omega) ?_ | refine ccnt (Opd.pl rfl) (by first | assumption | omega) ?_ | refine ccnf (Opd.pl rfl) (by first | assumption | omega) ?_ | refine ccbt (Opd.pl rfl) (by first | rfl | assumption) ?_ | refine ccbf (Opd.pl rfl) (by first | rfl | assumption) ?_ | refine ccnbt (Opd.pl rfl) (by assumption) ?_ | refine ccnbf (Opd.pl rfl) (by assumption) ?_
    | refine ccd (fun hh => ?_) (fun hh => ?_) | refine ccn (fun hh => ?_) (fun hh => ?_) | refine ccnb (fun hh => ?_) (fun hh => ?_) | refine cc (fun hh => ?_) (fun hh => ?_)
    | refine hc_skip ?_ | refine hc_ret ?_ | refine hc_exit ?_ | refine hc_block ?_ | refine at_then_ret ?_ | refine at_block_ret ?_ | refine at_block_exit ?_ | refine at_block_other rfl ?_ | refine at_then_exit ?_ | refine at_block ?_)
    exact at_round (k + 1) (by omega) (by omega) (FSub.cons rfl (FSub.cons rfl (FSub.int rfl (by omega) FSub.nil))) (KSub.ownF (Pick.here _ _) (fill_set xs _ hx) (KSub.nil _))
  · repeat' (first
    | refine hc_seq ?_ | refine hc_region ?_ | refine hv ?_ | refine hvg ?_ | refine hl_nil ?_ | refine at_then ?_
    | refine hb (fun _ => ?_) | refine ha (fun _ => ?_) | refine hs ?_ | refine qv ?_ | refine qvg ?_ | refine hq_nil ?_ | refine hc_quiet mixed (by kernel_rfl) ?_
    | refine ccdt (Opd.pl rfl) (by first | assumption | omega) ?_ | refine ccdf (Opd.pl rfl) (by first | assumption | omega) ?_ | refine ccnt (Opd.pl rfl) (by first | assumption | omega) ?_ | refine ccnf (Opd.pl rfl) (by first | assumption | omega) ?_ | refine ccbt (Opd.pl rfl) (by first | rfl | assumption) ?_ | refine ccbf (Opd.pl rfl) (by first | rfl | assumption) ?_ | refine ccnbt (Opd.pl rfl) (by assumption) ?_ | refine ccnbf (Opd.pl rfl) (by assumption) ?_
    | refine ccd (fun hh => ?_) (fun hh => ?_) | refine ccn (fun hh => ?_) (fun hh => ?_) | refine ccnb (fun hh => ?_) (fun hh => ?_) | refine cc (fun hh => ?_) (fun hh => ?_)
    | refine hc_skip ?_ | refine hc_ret ?_ | refine hc_exit ?_ | refine hc_block ?_ | refine at_then_ret ?_ | refine at_block_ret ?_ | refine at_block_exit ?_ | refine at_block_other rfl ?_ | refine at_then_exit ?_ | refine at_block ?_)
    have : k = xs.length := by omega
    subst this
    exact ret1 _ rfl (KSub.ownF (Pick.here _ _) (by simp) (KSub.nil _))
theorem c_eqEvS (v u : Value) (xs ys : List E.Ev) (w : World) (hr : RdF w v xs) (hq : RdF w u ys) : Calls Try.prog 24 #[v, u] w (Ret (fun _ : Unit => .bool (decide (xs = ys))) (fun _ => []) w) := by
  have m1 := hr.le
  have m2 := hq.le
  simp only [maxLen] at m1 m2
  refine enter (args := _) Try.func24 rfl Try.ntmps24 (by simp) ?_
  repeat' (first
    | refine hc_seq ?_ | refine hc_region ?_ | refine hv ?_ | refine hvg ?_ | refine hl_nil ?_ | refine at_then ?_
    | refine hb (fun _ => ?_) | refine ha (fun _ => ?_) | refine hs ?_ | refine qv ?_ | refine qvg ?_ | refine hq_nil ?_ | refine hc_quiet mixed (by kernel_rfl) ?_
    | refine ccdt (Opd.pl rfl) (by first | assumption | omega) ?_ | refine ccdf (Opd.pl rfl) (by first | assumption | omega) ?_ | refine ccnt (Opd.pl rfl) (by first | assumption | omega) ?_ | refine ccnf (Opd.pl rfl) (by first | assumption | omega) ?_ | refine ccbt (Opd.pl rfl) (by first | rfl | assumption) ?_ | refine ccbf (Opd.pl rfl) (by first | rfl | assumption) ?_ | refine ccnbt (Opd.pl rfl) (by assumption) ?_ | refine ccnbf (Opd.pl rfl) (by assumption) ?_
    | refine ccd (fun hh => ?_) (fun hh => ?_) | refine ccn (fun hh => ?_) (fun hh => ?_) | refine ccnb (fun hh => ?_) (fun hh => ?_) | refine cc (fun hh => ?_) (fun hh => ?_)
    | refine hc_skip ?_ | refine hc_ret ?_ | refine hc_exit ?_ | refine hc_block ?_ | refine at_then_ret ?_ | refine at_block_ret ?_ | refine at_block_exit ?_ | refine at_block_other rfl ?_ | refine at_then_exit ?_ | refine at_block ?_)
  · refine ret0 ?_
    simp only [Value.bool.injEq]
    symm
    apply decide_eq_false
    rintro rfl
    simp_all
  have hlen : xs.length = ys.length := by omega
  refine hc_loop (α := Nat) (fun k => k ≤ xs.length ∧ xs.take k = ys.take k) (fun k => [(0, .pl v), (1, .pl u), (5, .pl (.int .i64 (k : Int)))]) (fun k => []) (fun k => xs.length - k) 0 ⟨Nat.zero_le _, rfl⟩ (FSub.cons rfl (FSub.cons rfl (FSub.cons rfl FSub.nil))) (KSub.nil _) (fun k hk0 => ?_)
  obtain ⟨hk1, hk2⟩ := hk0
  rcases Nat.lt_or_ge k xs.length with hlt | hge
  · obtain ⟨x, hx⟩ : ∃ x, xs[k]? = some x := ⟨_, List.getElem?_eq_getElem hlt⟩
    obtain ⟨y, hy⟩ : ∃ y, ys[k]? = some y := ⟨_, List.getElem?_eq_getElem (hlen ▸ hlt)⟩
    have hlt' : k < ys.length := hlen ▸ hlt
    repeat' (first
    | refine hc_seq ?_ | refine hc_region ?_ | refine hv ?_ | refine hvg ?_ | refine hl_nil ?_ | refine at_then ?_
    | refine hcv (fun w _ => c_eqEv _ _ _ _ _ _ _ _ _ _ _ _ _ _ _ _ _ _ _ _ _ _ _ _ _ _ w) ?_ | refine qcv (fun w _ => c_eqEv _ _ _ _ _ _ _ _ _ _ _ _ _ _ _ _ _ _ _ _ _ _ _ _ _ _ w) ?_
    | refine hb (fun _ => ?_) | refine ha (fun _ => ?_) | refine hs ?_ | refine qv ?_ | refine qvg ?_ | refine hq_nil ?_ | refine hc_quiet mixed (by kernel_rfl) ?_
    | refine ccdt (Opd.pl rfl) (by first | assumption | omega) ?_ | refine ccdf (Opd.pl rfl) (by first | assumption | omega) ?_ | refine ccnt (Opd.pl rfl) (by first | assumption | omega) ?_ | refine ccnf (Opd.pl rfl) (by first | assumption | omega) ?_ | refine ccbt (Opd.pl rfl) (by first | rfl | assumption) ?_ | refine ccbf (Opd.pl rfl) (by first | rfl | assumption) ?_ | refine ccnbt (Opd.pl rfl) (by assumption) ?_ | refine ccnbf (Opd.pl rfl) (by assumption) ?_
    | refine ccd (fun hh => ?_) (fun hh => ?_) | refine ccn (fun hh => ?_) (fun hh => ?_) | refine ccnb (fun hh => ?_) (fun hh => ?_) | refine cc (fun hh => ?_) (fun hh => ?_)
    | refine hc_skip ?_ | refine hc_ret ?_ | refine hc_exit ?_ | refine hc_block ?_ | refine at_then_ret ?_ | refine at_block_ret ?_ | refine at_block_exit ?_ | refine at_block_other rfl ?_ | refine at_then_exit ?_ | refine at_block ?_)
    · refine ret0 ?_
      simp only [Value.bool.injEq]
      symm
      apply decide_eq_false
      rintro rfl
      rw [hx] at hy
      injection hy with hy
      subst hy
      simp at hh
    · refine at_round (k + 1) ⟨by omega, ?_⟩ (by omega) (FSub.cons rfl (FSub.cons rfl (FSub.int rfl (by omega) FSub.nil))) (KSub.nil _)
      have hxy : x = y := by first | exact hh | simpa using hh
      rw [List.take_add_one, List.take_add_one, hk2, hx, hy, hxy]
  · repeat' (first
    | refine hc_seq ?_ | refine hc_region ?_ | refine hv ?_ | refine hvg ?_ | refine hl_nil ?_ | refine at_then ?_
    | refine hb (fun _ => ?_) | refine ha (fun _ => ?_) | refine hs ?_ | refine qv ?_ | refine qvg ?_ | refine hq_nil ?_ | refine hc_quiet mixed (by kernel_rfl) ?_
    | refine ccdt (Opd.pl rfl) (by first | assumption | omega) ?_ | refine ccdf (Opd.pl rfl) (by first | assumption | omega) ?_ | refine ccnt (Opd.pl rfl) (by first | assumption | omega) ?_ | refine ccnf (Opd.pl rfl) (by first | assumption | omega) ?_ | refine ccbt (Opd.pl rfl) (by first | rfl | assumption) ?_ | refine ccbf (Opd.pl rfl) (by first | rfl | assumption) ?_ | refine ccnbt (Opd.pl rfl) (by assumption) ?_ | refine ccnbf (Opd.pl rfl) (by assumption) ?_
    | refine ccd (fun hh => ?_) (fun hh => ?_) | refine ccn (fun hh => ?_) (fun hh => ?_) | refine ccnb (fun hh => ?_) (fun hh => ?_) | refine cc (fun hh => ?_) (fun hh => ?_)
    | refine hc_skip ?_ | refine hc_ret ?_ | refine hc_exit ?_ | refine hc_block ?_ | refine at_then_ret ?_ | refine at_block_ret ?_ | refine at_block_exit ?_ | refine at_block_other rfl ?_ | refine at_then_exit ?_ | refine at_block ?_)
    refine ret0 ?_
    simp only [Value.bool.injEq]
    symm
    apply decide_eq_true
    rw [List.take_of_length_le hge, List.take_of_length_le (by omega)] at hk2
    exact hk2
theorem c_szEvS (v : Value) (xs : List E.Ev) (k : Int) (hk : 0 ≤ k ∧ k ≤ 1048576) (w : World) (hr : RdF w v xs) : Calls Try.prog 19 #[v, .int .i64 k] w (Ret (fun _ : Unit => .int .i64 (if k - xs.length < 0 then -1 else k - xs.length)) (fun _ => []) w) := by
  have m1 := hr.le
  simp only [maxLen] at m1
  refine enter (args := _) Try.func19 rfl Try.ntmps19 (by simp) ?_
  repeat' (first
    | refine hc_seq ?_ | refine hc_region ?_ | refine hv ?_ | refine hvg ?_ | refine hl_nil ?_ | refine at_then ?_
    | refine hb (fun _ => ?_) | refine ha (fun _ => ?_) | refine hs ?_ | refine qv ?_ | refine qvg ?_ | refine hq_nil ?_ | refine hc_quiet mixed (by kernel_rfl) ?_
    | refine ccdt (Opd.pl rfl) (by first | assumption | omega) ?_ | refine ccdf (Opd.pl rfl) (by first | assumption | omega) ?_ | refine ccnt (Opd.pl rfl) (by first | assumption | omega) ?_ | refine ccnf (Opd.pl rfl) (by first | assumption | omega) ?_ | refine ccbt (Opd.pl rfl) (by first | rfl | assumption) ?_ | refine ccbf (Opd.pl rfl) (by first | rfl | assumption) ?_ | refine ccnbt (Opd.pl rfl) (by assumption) ?_ | refine ccnbf (Opd.pl rfl) (by assumption) ?_
    | refine ccd (fun hh => ?_) (fun hh => ?_) | refine ccn (fun hh => ?_) (fun hh => ?_) | refine ccnb (fun hh => ?_) (fun hh => ?_) | refine cc (fun hh => ?_) (fun hh => ?_)
    | refine hc_skip ?_ | refine hc_ret ?_ | refine hc_exit ?_ | refine hc_block ?_ | refine at_then_ret ?_ | refine at_block_ret ?_ | refine at_block_exit ?_ | refine at_block_other rfl ?_ | refine at_then_exit ?_ | refine at_block ?_)
  · refine ret0 ?_; rw [if_pos (by omega)]
  · refine ret0 ?_; rw [if_neg (by omega)]
theorem c_markEvS {w0 : World} {K K' : List Ck} {v : Value} {xs : List E.Ev} (hp : Pick K (ownF 76 v xs) K') (k : Int) (hk : 0 ≤ k ∧ k ≤ 1000000000000) (hn : xs.length ≤ 10000000) (w : World) (hw : KOk w0 K w) :
    Calls Try.prog 27 #[v, .int .i64 k] w (RetK (fun _ : Unit => .int .i64 (k + ((xs.length * 13 : Nat) : Int))) (fun _ => ownF 76 v (marks E.Ev xs.length k) :: K') w0) := by
  refine enterK (args := _) (hw.pick hp) Try.func27 rfl Try.ntmps27 (by simp) ?_
  repeat' (first
    | refine hc_seq ?_ | refine hc_region ?_ | refine hv ?_ | refine hvg ?_ | refine hl_nil ?_ | refine at_then ?_
    | refine hb (fun _ => ?_) | refine ha (fun _ => ?_) | refine hs ?_ | refine qv ?_ | refine qvg ?_ | refine hq_nil ?_ | refine hc_quiet mixed (by kernel_rfl) ?_
    | refine ccdt (Opd.pl rfl) (by first | assumption | omega) ?_ | refine ccdf (Opd.pl rfl) (by first | assumption | omega) ?_ | refine ccnt (Opd.pl rfl) (by first | assumption | omega) ?_ | refine ccnf (Opd.pl rfl) (by first | assumption | omega) ?_ | refine ccbt (Opd.pl rfl) (by first | rfl | assumption) ?_ | refine ccbf (Opd.pl rfl) (by first | rfl | assumption) ?_ | refine ccnbt (Opd.pl rfl) (by assumption) ?_ | refine ccnbf (Opd.pl rfl) (by assumption) ?_
    | refine ccd (fun hh => ?_) (fun hh => ?_) | refine ccn (fun hh => ?_) (fun hh => ?_) | refine ccnb (fun hh => ?_) (fun hh => ?_) | refine cc (fun hh => ?_) (fun hh => ?_)
    | refine hc_skip ?_ | refine hc_ret ?_ | refine hc_exit ?_ | refine hc_block ?_ | refine at_then_ret ?_ | refine at_block_ret ?_ | refine at_block_exit ?_ | refine at_block_other rfl ?_ | refine at_then_exit ?_ | refine at_block ?_)
  refine hc_loop (α := Nat) (fun i => i ≤ xs.length) (fun i => [(0, .pl v), (1, .pl (.int .i64 (k + ((i * 13 : Nat) : Int)))), (5, .pl (.int .i64 (i : Int)))]) (fun i => ownF 76 v (marks E.Ev i k ++ xs.drop i) :: K') (fun i => xs.length - i) 0 (Nat.zero_le _) (FSub.cons rfl (FSub.int rfl (by omega) (FSub.int rfl (by omega) FSub.nil))) (KSub.ownF (Pick.here _ _) (by simp [marks]) (KSub.refl _)) (fun i hi => ?_)
  have hl : (marks E.Ev i k ++ xs.drop i).length = xs.length := by simp [marks_length]; omega
  rcases Nat.lt_or_ge i xs.length with hlt | hge
  · obtain ⟨x, hx⟩ : ∃ x, xs[i]? = some x := ⟨_, List.getElem?_eq_getElem hlt⟩
    have hg := mark_get (k := k) hx
    generalize hm : k + ((i * 13 : Nat) : Int) = m
    have hm2 : 0 ≤ m ∧ m ≤ 1000200000000 := by omega
    repeat' (first
    | refine hc_seq ?_ | refine hc_region ?_ | refine hv ?_ | refine hvg ?_ | refine hl_nil ?_ | refine at_then ?_
    | (refine hts (α := E.Ev) (⟨(m), x.w, ⟨x.o.k, ⟨x.o.n.l, x.o.n.n⟩, ⟨x.o.e.l, ⟨x.o.e.a.l, x.o.e.a.n⟩, ⟨x.o.e.b.l, x.o.e.b.n⟩⟩⟩, ⟨x.q.k, ⟨x.q.n.l, x.q.n.n⟩⟩⟩ : E.Ev) (fun R1 hR1 hl1 hg1 => ?_) hg) | (refine hts (α := E.Ev) (⟨(m), (m + 1), ⟨x.o.k, ⟨x.o.n.l, x.o.n.n⟩, ⟨x.o.e.l, ⟨x.o.e.a.l, x.o.e.a.n⟩, ⟨x.o.e.b.l, x.o.e.b.n⟩⟩⟩, ⟨x.q.k, ⟨x.q.n.l, x.q.n.n⟩⟩⟩ : E.Ev) (fun R2 hR2 hl2 hg2 => ?_) hg1) | (refine hts (α := E.Ev) (⟨(m), (m + 1), ⟨(m + 1 + 1), ⟨x.o.n.l, x.o.n.n⟩, ⟨x.o.e.l, ⟨x.o.e.a.l, x.o.e.a.n⟩, ⟨x.o.e.b.l, x.o.e.b.n⟩⟩⟩, ⟨x.q.k, ⟨x.q.n.l, x.q.n.n⟩⟩⟩ : E.Ev) (fun R3 hR3 hl3 hg3 => ?_) hg2) | (refine hts (α := E.Ev) (⟨(m), (m + 1), ⟨(m + 1 + 1), ⟨(m + 1 + 1 + 1), x.o.n.n⟩, ⟨x.o.e.l, ⟨x.o.e.a.l, x.o.e.a.n⟩, ⟨x.o.e.b.l, x.o.e.b.n⟩⟩⟩, ⟨x.q.k, ⟨x.q.n.l, x.q.n.n⟩⟩⟩ : E.Ev) (fun R4 hR4 hl4 hg4 => ?_) hg3) | (refine hts (α := E.Ev) (⟨(m), (m + 1), ⟨(m + 1 + 1), ⟨(m + 1 + 1 + 1), (m + 1 + 1 + 1 + 1)⟩, ⟨x.o.e.l, ⟨x.o.e.a.l, x.o.e.a.n⟩, ⟨x.o.e.b.l, x.o.e.b.n⟩⟩⟩, ⟨x.q.k, ⟨x.q.n.l, x.q.n.n⟩⟩⟩ : E.Ev) (fun R5 hR5 hl5 hg5 => ?_) hg4) | (refine hts (α := E.Ev) (⟨(m), (m + 1), ⟨(m + 1 + 1), ⟨(m + 1 + 1 + 1), (m + 1 + 1 + 1 + 1)⟩, ⟨(m + 1 + 1 + 1 + 1 + 1), ⟨x.o.e.a.l, x.o.e.a.n⟩, ⟨x.o.e.b.l, x.o.e.b.n⟩⟩⟩, ⟨x.q.k, ⟨x.q.n.l, x.q.n.n⟩⟩⟩ : E.Ev) (fun R6 hR6 hl6 hg6 => ?_) hg5) | (refine hts (α := E.Ev) (⟨(m), (m + 1), ⟨(m + 1 + 1), ⟨(m + 1 + 1 + 1), (m + 1 + 1 + 1 + 1)⟩, ⟨(m + 1 + 1 + 1 + 1 + 1), ⟨(m + 1 + 1 + 1 + 1 + 1 + 1), x.o.e.a.n⟩, ⟨x.o.e.b.l, x.o.e.b.n⟩⟩⟩, ⟨x.q.k, ⟨x.q.n.l, x.q.n.n⟩⟩⟩ : E.Ev) (fun R7 hR7 hl7 hg7 => ?_) hg6) | (refine hts (α := E.Ev) (⟨(m), (m + 1), ⟨(m + 1 + 1), ⟨(m + 1 + 1 + 1), (m + 1 + 1 + 1 + 1)⟩, ⟨(m + 1 + 1 + 1 + 1 + 1), ⟨(m + 1 + 1 + 1 + 1 + 1 + 1), (m + 1 + 1 + 1 + 1 + 1 + 1 + 1)⟩, ⟨x.o.e.b.l, x.o.e.b.n⟩⟩⟩, ⟨x.q.k, ⟨x.q.n.l, x.q.n.n⟩⟩⟩ : E.Ev) (fun R8 hR8 hl8 hg8 => ?_) hg7) | (refine hts (α := E.Ev) (⟨(m), (m + 1), ⟨(m + 1 + 1), ⟨(m + 1 + 1 + 1), (m + 1 + 1 + 1 + 1)⟩, ⟨(m + 1 + 1 + 1 + 1 + 1), ⟨(m + 1 + 1 + 1 + 1 + 1 + 1), (m + 1 + 1 + 1 + 1 + 1 + 1 + 1)⟩, ⟨(m + 1 + 1 + 1 + 1 + 1 + 1 + 1 + 1), x.o.e.b.n⟩⟩⟩, ⟨x.q.k, ⟨x.q.n.l, x.q.n.n⟩⟩⟩ : E.Ev) (fun R9 hR9 hl9 hg9 => ?_) hg8) | (refine hts (α := E.Ev) (⟨(m), (m + 1), ⟨(m + 1 + 1), ⟨(m + 1 + 1 + 1), (m + 1 + 1 + 1 + 1)⟩, ⟨(m + 1 + 1 + 1 + 1 + 1), ⟨(m + 1 + 1 + 1 + 1 + 1 + 1), (m + 1 + 1 + 1 + 1 + 1 + 1 + 1)⟩, ⟨(m + 1 + 1 + 1 + 1 + 1 + 1 + 1 + 1), (m + 1 + 1 + 1 + 1 + 1 + 1 + 1 + 1 + 1)⟩⟩⟩, ⟨x.q.k, ⟨x.q.n.l, x.q.n.n⟩⟩⟩ : E.Ev) (fun R10 hR10 hl10 hg10 => ?_) hg9) | (refine hts (α := E.Ev) (⟨(m), (m + 1), ⟨(m + 1 + 1), ⟨(m + 1 + 1 + 1), (m + 1 + 1 + 1 + 1)⟩, ⟨(m + 1 + 1 + 1 + 1 + 1), ⟨(m + 1 + 1 + 1 + 1 + 1 + 1), (m + 1 + 1 + 1 + 1 + 1 + 1 + 1)⟩, ⟨(m + 1 + 1 + 1 + 1 + 1 + 1 + 1 + 1), (m + 1 + 1 + 1 + 1 + 1 + 1 + 1 + 1 + 1)⟩⟩⟩, ⟨(m + 1 + 1 + 1 + 1 + 1 + 1 + 1 + 1 + 1 + 1), ⟨x.q.n.l, x.q.n.n⟩⟩⟩ : E.Ev) (fun R11 hR11 hl11 hg11 => ?_) hg10) | (refine hts (α := E.Ev) (⟨(m), (m + 1), ⟨(m + 1 + 1), ⟨(m + 1 + 1 + 1), (m + 1 + 1 + 1 + 1)⟩, ⟨(m + 1 + 1 + 1 + 1 + 1), ⟨(m + 1 + 1 + 1 + 1 + 1 + 1), (m + 1 + 1 + 1 + 1 + 1 + 1 + 1)⟩, ⟨(m + 1 + 1 + 1 + 1 + 1 + 1 + 1 + 1), (m + 1 + 1 + 1 + 1 + 1 + 1 + 1 + 1 + 1)⟩⟩⟩, ⟨(m + 1 + 1 + 1 + 1 + 1 + 1 + 1 + 1 + 1 + 1), ⟨(m + 1 + 1 + 1 + 1 + 1 + 1 + 1 + 1 + 1 + 1 + 1), x.q.n.n⟩⟩⟩ : E.Ev) (fun R12 hR12 hl12 hg12 => ?_) hg11) | (refine hts (α := E.Ev) (⟨(m), (m + 1), ⟨(m + 1 + 1), ⟨(m + 1 + 1 + 1), (m + 1 + 1 + 1 + 1)⟩, ⟨(m + 1 + 1 + 1 + 1 + 1), ⟨(m + 1 + 1 + 1 + 1 + 1 + 1), (m + 1 + 1 + 1 + 1 + 1 + 1 + 1)⟩, ⟨(m + 1 + 1 + 1 + 1 + 1 + 1 + 1 + 1), (m + 1 + 1 + 1 + 1 + 1 + 1 + 1 + 1 + 1)⟩⟩⟩, ⟨(m + 1 + 1 + 1 + 1 + 1 + 1 + 1 + 1 + 1 + 1), ⟨(m + 1 + 1 + 1 + 1 + 1 + 1 + 1 + 1 + 1 + 1 + 1), (m + 1 + 1 + 1 + 1 + 1 + 1 + 1 + 1 + 1 + 1 + 1 + 1)⟩⟩⟩ : E.Ev) (fun R13 hR13 hl13 hg13 => ?_) hg12)
    | refine hb (fun _ => ?_) | refine ha (fun _ => ?_) | refine hs ?_ | refine qv ?_ | refine qvg ?_ | refine hq_nil ?_ | refine hc_quiet mixed (by kernel_rfl) ?_
    | refine ccdt (Opd.pl rfl) (by first | assumption | omega) ?_ | refine ccdf (Opd.pl rfl) (by first | assumption | omega) ?_ | refine ccnt (Opd.pl rfl) (by first | assumption | omega) ?_ | refine ccnf (Opd.pl rfl) (by first | assumption | omega) ?_ | refine ccbt (Opd.pl rfl) (by first | rfl | assumption) ?_ | refine ccbf (Opd.pl rfl) (by first | rfl | assumption) ?_ | refine ccnbt (Opd.pl rfl) (by assumption) ?_ | refine ccnbf (Opd.pl rfl) (by assumption) ?_
    | refine ccd (fun hh => ?_) (fun hh => ?_) | refine ccn (fun hh => ?_) (fun hh => ?_) | refine ccnb (fun hh => ?_) (fun hh => ?_) | refine cc (fun hh => ?_) (fun hh => ?_)
    | refine hc_skip ?_ | refine hc_ret ?_ | refine hc_exit ?_ | refine hc_block ?_ | refine at_then_ret ?_ | refine at_block_ret ?_ | refine at_block_exit ?_ | refine at_block_other rfl ?_ | refine at_then_exit ?_ | refine at_block ?_)
    refine at_round (i + 1) (by omega) (by omega) (FSub.cons rfl (FSub.int rfl (by omega) (FSub.int rfl (by omega) FSub.nil))) (KSub.ownF (Pick.here _ _) ?_ (KSub.refl _))
    rw [← mark_set (k := k) hx]
    subst hm
    rw [hR13, hR12, hR11, hR10, hR9, hR8, hR7, hR6, hR5, hR4, hR3, hR2, hR1]
    simp [Mark.el, Mark.n, Int.add_assoc, List.set_set]
  · repeat' (first
    | refine hc_seq ?_ | refine hc_region ?_ | refine hv ?_ | refine hvg ?_ | refine hl_nil ?_ | refine at_then ?_
    | refine hb (fun _ => ?_) | refine ha (fun _ => ?_) | refine hs ?_ | refine qv ?_ | refine qvg ?_ | refine hq_nil ?_ | refine hc_quiet mixed (by kernel_rfl) ?_
    | refine ccdt (Opd.pl rfl) (by first | assumption | omega) ?_ | refine ccdf (Opd.pl rfl) (by first | assumption | omega) ?_ | refine ccnt (Opd.pl rfl) (by first | assumption | omega) ?_ | refine ccnf (Opd.pl rfl) (by first | assumption | omega) ?_ | refine ccbt (Opd.pl rfl) (by first | rfl | assumption) ?_ | refine ccbf (Opd.pl rfl) (by first | rfl | assumption) ?_ | refine ccnbt (Opd.pl rfl) (by assumption) ?_ | refine ccnbf (Opd.pl rfl) (by assumption) ?_
    | refine ccd (fun hh => ?_) (fun hh => ?_) | refine ccn (fun hh => ?_) (fun hh => ?_) | refine ccnb (fun hh => ?_) (fun hh => ?_) | refine cc (fun hh => ?_) (fun hh => ?_)
    | refine hc_skip ?_ | refine hc_ret ?_ | refine hc_exit ?_ | refine hc_block ?_ | refine at_then_ret ?_ | refine at_block_ret ?_ | refine at_block_exit ?_ | refine at_block_other rfl ?_ | refine at_then_exit ?_ | refine at_block ?_)
    have : i = xs.length := by omega
    subst this
    exact ret1K () rfl (KSub.ownF (Pick.here _ _) (by simp) (KSub.refl _))
theorem c_heldEvS {v : Value} {n : Nat} (k : Int) (hk : 0 ≤ k ∧ k ≤ 1000000000000) (hn : n ≤ 10000000) (w : World) (hr : RdF w v (marks E.Ev n k)) :
    Calls Try.prog 28 #[v, .int .i64 k] w (Ret (fun _ : Unit => .int .i64 (k + ((n * 13 : Nat) : Int))) (fun _ => []) w) := by
  have hl : (marks E.Ev n k).length = n := marks_length _ _
  refine enter (args := _) Try.func28 rfl Try.ntmps28 (by simp) ?_
  repeat' (first
    | refine hc_seq ?_ | refine hc_region ?_ | refine hv ?_ | refine hvg ?_ | refine hl_nil ?_ | refine at_then ?_
    | refine hb (fun _ => ?_) | refine ha (fun _ => ?_) | refine hs ?_ | refine qv ?_ | refine qvg ?_ | refine hq_nil ?_ | refine hc_quiet mixed (by kernel_rfl) ?_
    | refine ccdt (Opd.pl rfl) (by first | assumption | omega) ?_ | refine ccdf (Opd.pl rfl) (by first | assumption | omega) ?_ | refine ccnt (Opd.pl rfl) (by first | assumption | omega) ?_ | refine ccnf (Opd.pl rfl) (by first | assumption | omega) ?_ | refine ccbt (Opd.pl rfl) (by first | rfl | assumption) ?_ | refine ccbf (Opd.pl rfl) (by first | rfl | assumption) ?_ | refine ccnbt (Opd.pl rfl) (by assumption) ?_ | refine ccnbf (Opd.pl rfl) (by assumption) ?_
    | refine ccd (fun hh => ?_) (fun hh => ?_) | refine ccn (fun hh => ?_) (fun hh => ?_) | refine ccnb (fun hh => ?_) (fun hh => ?_) | refine cc (fun hh => ?_) (fun hh => ?_)
    | refine hc_skip ?_ | refine hc_ret ?_ | refine hc_exit ?_ | refine hc_block ?_ | refine at_then_ret ?_ | refine at_block_ret ?_ | refine at_block_exit ?_ | refine at_block_other rfl ?_ | refine at_then_exit ?_ | refine at_block ?_)
  refine hc_loop (α := Nat) (fun i => i ≤ n) (fun i => [(0, .pl v), (1, .pl (.int .i64 (k + ((i * 13 : Nat) : Int)))), (5, .pl (.int .i64 (i : Int)))]) (fun i => []) (fun i => n - i) 0 (Nat.zero_le _) (FSub.cons rfl (FSub.int rfl (by omega) (FSub.int rfl (by omega) FSub.nil))) (KSub.nil _) (fun i hi => ?_)
  rcases Nat.lt_or_ge i n with hlt | hge
  · have hx := marks_get (α := E.Ev) (n := n) (k := k) hlt
    have hz : Mark.n E.Ev = 13 := rfl
    rw [hz] at hx
    change _ = some (⟨k + ((i * 13 : Nat) : Int), k + ((i * 13 : Nat) : Int) + 1, ⟨k + ((i * 13 : Nat) : Int) + 2, ⟨k + ((i * 13 : Nat) : Int) + 3, k + ((i * 13 : Nat) : Int) + 4⟩, ⟨k + ((i * 13 : Nat) : Int) + 5, ⟨k + ((i * 13 : Nat) : Int) + 6, k + ((i * 13 : Nat) : Int) + 7⟩, ⟨k + ((i * 13 : Nat) : Int) + 8, k + ((i * 13 : Nat) : Int) + 9⟩⟩⟩, ⟨k + ((i * 13 : Nat) : Int) + 10, ⟨k + ((i * 13 : Nat) : Int) + 11, k + ((i * 13 : Nat) : Int) + 12⟩⟩⟩ : E.Ev) at hx
    generalize hm : k + ((i * 13 : Nat) : Int) = m at hx ⊢
    have hm2 : 0 ≤ m ∧ m ≤ 1000200000000 := by omega
    repeat' (first
    | refine hc_seq ?_ | refine hc_region ?_ | refine hv ?_ | refine hvg ?_ | refine hl_nil ?_ | refine at_then ?_
    | refine hb (fun _ => ?_) | refine ha (fun _ => ?_) | refine hs ?_ | refine qv ?_ | refine qvg ?_ | refine hq_nil ?_ | refine hc_quiet mixed (by kernel_rfl) ?_
    | refine ccdt (Opd.pl rfl) (by first | assumption | omega) ?_ | refine ccdf (Opd.pl rfl) (by first | assumption | omega) ?_ | refine ccnt (Opd.pl rfl) (by first | assumption | omega) ?_ | refine ccnf (Opd.pl rfl) (by first | assumption | omega) ?_ | refine ccbt (Opd.pl rfl) (by first | rfl | assumption) ?_ | refine ccbf (Opd.pl rfl) (by first | rfl | assumption) ?_ | refine ccnbt (Opd.pl rfl) (by assumption) ?_ | refine ccnbf (Opd.pl rfl) (by assumption) ?_
    | refine ccd (fun hh => ?_) (fun hh => ?_) | refine ccn (fun hh => ?_) (fun hh => ?_) | refine ccnb (fun hh => ?_) (fun hh => ?_) | refine cc (fun hh => ?_) (fun hh => ?_)
    | refine hc_skip ?_ | refine hc_ret ?_ | refine hc_exit ?_ | refine hc_block ?_ | refine at_then_ret ?_ | refine at_block_ret ?_ | refine at_block_exit ?_ | refine at_block_other rfl ?_ | refine at_then_exit ?_ | refine at_block ?_)
    all_goals first
      | exact at_round (i + 1) (by omega) (by omega) (FSub.cons rfl (FSub.int rfl (by omega) (FSub.int rfl (by omega) FSub.nil))) (KSub.nil _)
      | exact absurd rfl hh
      | (refine absurd ?_ hh; (try dsimp only); omega)
  · repeat' (first
    | refine hc_seq ?_ | refine hc_region ?_ | refine hv ?_ | refine hvg ?_ | refine hl_nil ?_ | refine at_then ?_
    | refine hb (fun _ => ?_) | refine ha (fun _ => ?_) | refine hs ?_ | refine qv ?_ | refine qvg ?_ | refine hq_nil ?_ | refine hc_quiet mixed (by kernel_rfl) ?_
    | refine ccdt (Opd.pl rfl) (by first | assumption | omega) ?_ | refine ccdf (Opd.pl rfl) (by first | assumption | omega) ?_ | refine ccnt (Opd.pl rfl) (by first | assumption | omega) ?_ | refine ccnf (Opd.pl rfl) (by first | assumption | omega) ?_ | refine ccbt (Opd.pl rfl) (by first | rfl | assumption) ?_ | refine ccbf (Opd.pl rfl) (by first | rfl | assumption) ?_ | refine ccnbt (Opd.pl rfl) (by assumption) ?_ | refine ccnbf (Opd.pl rfl) (by assumption) ?_
    | refine ccd (fun hh => ?_) (fun hh => ?_) | refine ccn (fun hh => ?_) (fun hh => ?_) | refine ccnb (fun hh => ?_) (fun hh => ?_) | refine cc (fun hh => ?_) (fun hh => ?_)
    | refine hc_skip ?_ | refine hc_ret ?_ | refine hc_exit ?_ | refine hc_block ?_ | refine at_then_ret ?_ | refine at_block_ret ?_ | refine at_block_exit ?_ | refine at_block_other rfl ?_ | refine at_then_exit ?_ | refine at_block ?_)
    have : i = n := by omega
    subst this
    exact ret0
end E
end Go.Proofs.Ytbplkdibjjcomaa
