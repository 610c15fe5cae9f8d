/- Contracts of the program's and the reference's functions on nodes and edges, and on what is done to a graph. -/
import Derived.Test.YtbplkdibjjcomaaFa
namespace Go.Proofs.Ytbplkdibjjcomaa
namespace E
open Go Go.RowKit
set_option linter.unusedSimpArgs false
set_option linter.unusedVariables false
set_option maxHeartbeats 1000000
set_option maxRecDepth 10000
attribute [local irreducible] HC HL HQ HX HO At Y YV Opd Opds KnX Sl Ld Src GV RV Calls Code.wp eptr adr RdF ownF OneX

theorem lok_iff {a : Int} : lok a = true ↔ 0 ≤ a ∧ a ≤ 7 := by simp [lok]
theorem nok_iff {x : Nd} : nok x = true ↔ 0 ≤ x.l ∧ x.l ≤ 7 ∧ 0 ≤ x.n ∧ x.n ≤ 40 := by simp [nok, lok_iff, and_assoc]
def cd (x : Nd) : Int := IntKind.i64.wrap (IntKind.i64.wrap (x.l * 64) + x.n)
def code (x : Nd) : Int := if nok x = true then 64 * x.l + x.n else -1
theorem cd_ok {x : Nd} (h : nok x = true) : cd x = 64 * x.l + x.n := by
  have := nok_iff.1 h
  unfold cd
  rw [wrap_i64_of (z := x.l * 64) (by omega), wrap_i64_of (by omega)]
  omega
theorem c_s_l2Code (l n : Int) (w : World) : Calls Try.prog 61 #[.agg #[.int .i64 l, .int .i64 n]] w (Ret (fun _ : Unit => .int .i64 (cd ⟨l, n⟩)) (fun _ => []) w) := by
  refine enter (args := _) Try.func61 rfl Try.ntmps61 (by simp) ?_
  repeat' (first
    | refine hc_seq ?_ | refine hc_region ?_ | refine hv ?_ | refine hvg ?_ | refine hl_nil ?_ | refine at_then ?_
    | refine hb (fun _ => ?_) | refine ha (fun _ => ?_) | refine hs ?_ | refine qv ?_ | refine qvg ?_ | refine hq_nil ?_ | refine hc_quiet mixed (by kernel_rfl) ?_
    | refine ccdt (Opd.pl rfl) (by first | assumption | omega) ?_ | refine ccdf (Opd.pl rfl) (by first | assumption | omega) ?_ | refine ccnt (Opd.pl rfl) (by first | assumption | omega) ?_ | refine ccnf (Opd.pl rfl) (by first | assumption | omega) ?_ | refine ccbt (Opd.pl rfl) (by first | rfl | assumption) ?_ | refine ccbf (Opd.pl rfl) (by first | rfl | assumption) ?_ | refine ccnbt (Opd.pl rfl) (by assumption) ?_ | refine ccnbf (Opd.pl rfl) (by assumption) ?_
    | refine ccd (fun hh => ?_) (fun hh => ?_) | refine ccn (fun hh => ?_) (fun hh => ?_) | refine ccnb (fun hh => ?_) (fun hh => ?_) | refine cc (fun hh => ?_) (fun hh => ?_)
    | refine hc_skip ?_ | refine hc_ret ?_ | refine hc_exit ?_ | refine hc_block ?_ | refine at_then_ret ?_ | refine at_block_ret ?_ | refine at_block_exit ?_ | refine at_block_other rfl ?_ | refine at_then_exit ?_ | refine at_block ?_)
  exact ret0
theorem c_i_NodeCode (l n : Int) (w : World) : Calls Try.prog 63 #[.agg #[.int .i64 l, .int .i64 n]] w (Ret (fun _ : Unit => .int .i64 (code ⟨l, n⟩)) (fun _ => []) w) := by
  refine enter (args := _) Try.func63 rfl Try.ntmps63 (by simp) ?_
  repeat' (first
    | refine hc_seq ?_ | refine hc_region ?_ | refine hv ?_ | refine hvg ?_ | refine hl_nil ?_ | refine at_then ?_
    | refine hcv (fun w _ => c_i_NodeOk _ _ w) ?_
    | refine hb (fun _ => ?_) | refine ha (fun _ => ?_) | refine hs ?_ | refine qv ?_ | refine qvg ?_ | refine hq_nil ?_ | refine hc_quiet mixed (by kernel_rfl) ?_
    | refine ccdt (Opd.pl rfl) (by first | assumption | omega) ?_ | refine ccdf (Opd.pl rfl) (by first | assumption | omega) ?_ | refine ccnt (Opd.pl rfl) (by first | assumption | omega) ?_ | refine ccnf (Opd.pl rfl) (by first | assumption | omega) ?_ | refine ccbt (Opd.pl rfl) (by first | rfl | assumption) ?_ | refine ccbf (Opd.pl rfl) (by first | rfl | assumption) ?_ | refine ccnbt (Opd.pl rfl) (by assumption) ?_ | refine ccnbf (Opd.pl rfl) (by assumption) ?_
    | refine ccd (fun hh => ?_) (fun hh => ?_) | refine ccn (fun hh => ?_) (fun hh => ?_) | refine ccnb (fun hh => ?_) (fun hh => ?_) | refine cc (fun hh => ?_) (fun hh => ?_)
    | refine hc_skip ?_ | refine hc_ret ?_ | refine hc_exit ?_ | refine hc_block ?_ | refine at_then_ret ?_ | refine at_block_ret ?_ | refine at_block_exit ?_ | refine at_block_other rfl ?_ | refine at_then_exit ?_ | refine at_block ?_)
  · refine ret0 ?_
    simp [code, *]
  · have hb := nok_iff.1 (by assumption)
    refine ret0 ?_
    simp only [code, *, if_true]
    congr 1
    simp only [] at hb
    rw [wrap_i64_of (z := 64 * l) (by omega), wrap_i64_of (by omega)]

def eok (x : Eg) : Bool := lok x.l && nok x.a && nok x.b && decide (cd x.a < cd x.b) && und x.a.l x.l && und x.b.l x.l
theorem c_s_EdgeOk (l al an bl bn : Int) (w : World) : Calls Try.prog 54 #[.agg #[.int .i64 l, .int .i64 al, .int .i64 an, .int .i64 bl, .int .i64 bn]] w (Ret (fun _ : Unit => .bool (eok ⟨l, ⟨al, an⟩, ⟨bl, bn⟩⟩)) (fun _ => []) w) := by
  refine enter (args := _) Try.func54 rfl Try.ntmps54 (by simp) ?_
  repeat' (first
    | refine hc_seq ?_ | refine hc_region ?_ | refine hv ?_ | refine hvg ?_ | refine hl_nil ?_ | refine at_then ?_
    | refine qcv (fun w _ => c_s_LabelOk _ w) ?_ | refine qcvg (fun _ w _ => c_s_NodeOk _ _ w) ?_ | refine qcvg (fun _ w _ => c_s_l2Code _ _ w) ?_ | refine qcvg (fun _ w _ => c_s_l1Under _ _ w) ?_
    | refine hb (fun _ => ?_) | refine ha (fun _ => ?_) | refine hs ?_ | refine qv ?_ | refine qvg ?_ | refine hq_nil ?_ | refine hc_quiet mixed (by kernel_rfl) ?_
    | refine ccdt (Opd.pl rfl) (by first | assumption | omega) ?_ | refine ccdf (Opd.pl rfl) (by first | assumption | omega) ?_ | refine ccnt (Opd.pl rfl) (by first | assumption | omega) ?_ | refine ccnf (Opd.pl rfl) (by first | assumption | omega) ?_ | refine ccbt (Opd.pl rfl) (by first | rfl | assumption) ?_ | refine ccbf (Opd.pl rfl) (by first | rfl | assumption) ?_ | refine ccnbt (Opd.pl rfl) (by assumption) ?_ | refine ccnbf (Opd.pl rfl) (by assumption) ?_
    | refine ccd (fun hh => ?_) (fun hh => ?_) | refine ccn (fun hh => ?_) (fun hh => ?_) | refine ccnb (fun hh => ?_) (fun hh => ?_) | refine cc (fun hh => ?_) (fun hh => ?_)
    | refine hc_skip ?_ | refine hc_ret ?_ | refine hc_exit ?_ | refine hc_block ?_ | refine at_then_ret ?_ | refine at_block_ret ?_ | refine at_block_exit ?_ | refine at_block_other rfl ?_ | refine at_then_exit ?_ | refine at_block ?_)
  exact ret0
theorem c_i_EdgeOk (l al an bl bn : Int) (w : World) : Calls Try.prog 57 #[.agg #[.int .i64 l, .int .i64 al, .int .i64 an, .int .i64 bl, .int .i64 bn]] w (Ret (fun _ : Unit => .bool (eok ⟨l, ⟨al, an⟩, ⟨bl, bn⟩⟩)) (fun _ => []) w) := by
  refine enter (args := _) Try.func57 rfl Try.ntmps57 (by simp) ?_
  repeat' (first
    | refine hc_seq ?_ | refine hc_region ?_ | refine hv ?_ | refine hvg ?_ | refine hl_nil ?_ | refine at_then ?_
    | refine qcv (fun w _ => c_i_LabelOk _ w) ?_ | refine qcvg (fun _ w _ => c_i_NodeOk _ _ w) ?_ | refine qcvg (fun _ w _ => c_i_NodeCode _ _ w) ?_ | refine qcvg (fun _ w _ => c_i_LabelUnder _ _ w) ?_
    | refine hb (fun _ => ?_) | refine ha (fun _ => ?_) | refine hs ?_ | refine qv ?_ | refine qvg ?_ | refine hq_nil ?_ | refine hc_quiet mixed (by kernel_rfl) ?_
    | refine ccdt (Opd.pl rfl) (by first | assumption | omega) ?_ | refine ccdf (Opd.pl rfl) (by first | assumption | omega) ?_ | refine ccnt (Opd.pl rfl) (by first | assumption | omega) ?_ | refine ccnf (Opd.pl rfl) (by first | assumption | omega) ?_ | refine ccbt (Opd.pl rfl) (by first | rfl | assumption) ?_ | refine ccbf (Opd.pl rfl) (by first | rfl | assumption) ?_ | refine ccnbt (Opd.pl rfl) (by assumption) ?_ | refine ccnbf (Opd.pl rfl) (by assumption) ?_
    | refine ccd (fun hh => ?_) (fun hh => ?_) | refine ccn (fun hh => ?_) (fun hh => ?_) | refine ccnb (fun hh => ?_) (fun hh => ?_) | refine cc (fun hh => ?_) (fun hh => ?_)
    | refine hc_skip ?_ | refine hc_ret ?_ | refine hc_exit ?_ | refine hc_block ?_ | refine at_then_ret ?_ | refine at_block_ret ?_ | refine at_block_exit ?_ | refine at_block_other rfl ?_ | refine at_then_exit ?_ | refine at_block ?_)
  refine ret0 ?_
  congr 1
  unfold eok
  simp only []
  by_cases h1 : lok l = true
  · by_cases h2 : nok ⟨al, an⟩ = true
    · by_cases h3 : nok ⟨bl, bn⟩ = true
      · have h4 := cd_ok h2
        have h5 := cd_ok h3
        have h6 : lok al = true := by have := nok_iff.1 h2; exact lok_iff.2 ⟨this.1, this.2.1⟩
        have h7 : lok bl = true := by have := nok_iff.1 h3; exact lok_iff.2 ⟨this.1, this.2.1⟩
        simp [h1, h2, h3, code, h4, h5, lun, h6, h7]
      · simp [h3]
    · simp [h2]
  · simp [h1]
end E
end Go.Proofs.Ytbplkdibjjcomaa
