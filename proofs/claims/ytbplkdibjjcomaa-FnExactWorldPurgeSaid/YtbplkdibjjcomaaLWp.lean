/- WorldPurge: the program and the reference keep the same. -/
import Derived.Test.YtbplkdibjjcomaaFc
namespace Go.Proofs.Ytbplkdibjjcomaa
namespace E
open Go Go.RowKit
set_option linter.unusedSimpArgs false
set_option linter.unusedVariables false
set_option maxHeartbeats 1000000
set_option maxRecDepth 10000
attribute [local irreducible] HC HL HQ HX HO At Y YV Opd Opds KnX Sl Ld Src GV RV Calls Code.wp eptr adr RdF ownF OneX
def low (ps : List Pe) (e cl : Int) : Bool := decide (0 ≤ e) && decide (e < (ps.length : Int)) && lun (ps.getD e.toNat ⟨0, 0, 0⟩).c cl
theorem low_get (ps : List Pe) (e : Int) : (decide (0 ≤ e) && decide (e < (ps.length : Int))) = true → ps[e.toNat]? = some (ps.getD e.toNat ⟨0, 0, 0⟩) := fun h => by
  simp only [Bool.and_eq_true, decide_eq_true_eq] at h
  have hl : e.toNat < ps.length := by omega
  simp [List.getD_eq_getElem?_getD, List.getElem?_eq_getElem hl]
theorem c_s_l7Low (v : Value) (ps : List Pe) (a0 a1 a2 a3 a4 a5 a6 a7 a8 a9 a10 a11 a12 cl : Int) (w : World) (hr : RdF w v ps) :
    Calls Try.prog 41 #[v, .agg #[.int .i64 a0, .int .i64 a1, .int .i64 a2, .int .i64 a3, .int .i64 a4, .int .i64 a5, .int .i64 a6, .int .i64 a7, .int .i64 a8, .int .i64 a9, .int .i64 a10, .int .i64 a11, .int .i64 a12], .int .i64 cl] w (Ret (fun _ : Unit => .bool (low ps a1 cl)) (fun _ => []) w) := by
  have m1 := hr.le
  simp only [maxLen] at m1
  have hx := low_get ps a1
  refine enter (args := _) Try.func41 rfl Try.ntmps41 (by simp) ?_
  repeat' (first
    | refine hc_seq ?_ | refine hc_region ?_ | refine hv ?_ | refine hvg ?_ | refine hl_nil ?_ | refine at_then ?_
    | refine hcvg (fun _ w _ => c_s_LabelUnder _ _ w) ?_
    | refine hb (fun _ => ?_) | refine ha (fun _ => ?_) | refine hs ?_ | refine qv ?_ | refine qvg ?_ | refine hq_nil ?_ | refine hc_quiet mixed (by kernel_rfl) ?_
    | refine ccdt (Opd.pl rfl) (by first | assumption | omega) ?_ | refine ccdf (Opd.pl rfl) (by first | assumption | omega) ?_ | refine ccnt (Opd.pl rfl) (by first | assumption | omega) ?_ | refine ccnf (Opd.pl rfl) (by first | assumption | omega) ?_ | refine ccbt (Opd.pl rfl) (by first | rfl | assumption) ?_ | refine ccbf (Opd.pl rfl) (by first | rfl | assumption) ?_ | refine ccnbt (Opd.pl rfl) (by assumption) ?_ | refine ccnbf (Opd.pl rfl) (by assumption) ?_
    | refine ccd (fun hh => ?_) (fun hh => ?_) | refine ccn (fun hh => ?_) (fun hh => ?_) | refine ccnb (fun hh => ?_) (fun hh => ?_) | refine cc (fun hh => ?_) (fun hh => ?_)
    | refine hc_skip ?_ | refine hc_ret ?_ | refine hc_exit ?_ | refine hc_block ?_ | refine at_then_ret ?_ | refine at_block_ret ?_ | refine at_block_exit ?_ | refine at_block_other rfl ?_ | refine at_then_exit ?_ | refine at_block ?_)
  exact ret0
theorem c_i_seesNoMore (v : Value) (ps : List Pe) (a0 a1 a2 a3 a4 a5 a6 a7 a8 a9 a10 a11 a12 cl : Int) (w : World) (hr : RdF w v ps) :
    Calls Try.prog 47 #[v, .agg #[.int .i64 a0, .int .i64 a1, .int .i64 a2, .int .i64 a3, .int .i64 a4, .int .i64 a5, .int .i64 a6, .int .i64 a7, .int .i64 a8, .int .i64 a9, .int .i64 a10, .int .i64 a11, .int .i64 a12], .int .i64 cl] w (Ret (fun _ : Unit => .bool (low ps a1 cl)) (fun _ => []) w) := by
  have m1 := hr.le
  simp only [maxLen] at m1
  have hx := low_get ps a1
  refine enter (args := _) Try.func47 rfl Try.ntmps47 (by simp) ?_
  repeat' (first
    | refine hc_seq ?_ | refine hc_region ?_ | refine hv ?_ | refine hvg ?_ | refine hl_nil ?_ | refine at_then ?_
    | refine hcvg (fun _ w _ => c_i_LabelUnder _ _ w) ?_
    | refine hb (fun _ => ?_) | refine ha (fun _ => ?_) | refine hs ?_ | refine qv ?_ | refine qvg ?_ | refine hq_nil ?_ | refine hc_quiet mixed (by kernel_rfl) ?_
    | refine ccdt (Opd.pl rfl) (by first | assumption | omega) ?_ | refine ccdf (Opd.pl rfl) (by first | assumption | omega) ?_ | refine ccnt (Opd.pl rfl) (by first | assumption | omega) ?_ | refine ccnf (Opd.pl rfl) (by first | assumption | omega) ?_ | refine ccbt (Opd.pl rfl) (by first | rfl | assumption) ?_ | refine ccbf (Opd.pl rfl) (by first | rfl | assumption) ?_ | refine ccnbt (Opd.pl rfl) (by assumption) ?_ | refine ccnbf (Opd.pl rfl) (by assumption) ?_
    | refine ccd (fun hh => ?_) (fun hh => ?_) | refine ccn (fun hh => ?_) (fun hh => ?_) | refine ccnb (fun hh => ?_) (fun hh => ?_) | refine cc (fun hh => ?_) (fun hh => ?_)
    | refine hc_skip ?_ | refine hc_ret ?_ | refine hc_exit ?_ | refine hc_block ?_ | refine at_then_ret ?_ | refine at_block_ret ?_ | refine at_block_exit ?_ | refine at_block_other rfl ?_ | refine at_then_exit ?_ | refine at_block ?_)
  exact ret0
def pur (ps : List Pe) (cl : Int) (e : Ev) : Bool := low ps e.w cl || (decide (e.k = 1) && lun (olab e.o) cl)
theorem filter_step {α : Type} {xs : List α} {k : Nat} {x : α} (p : α → Bool) (hx : xs[k]? = some x) : (xs.take (k + 1)).filter p = (xs.take k).filter p ++ (if p x = true then [x] else []) := by
  rw [List.take_add_one, hx, List.filter_append]
  by_cases h : p x = true <;> simp [h]
theorem filter_le {α : Type} {xs : List α} {k n : Nat} (p : α → Bool) (h : xs.length ≤ n) : ((xs.take k).filter p).length ≤ n := by
  have h1 := List.length_filter_le p (xs.take k)
  have h2 := List.length_take_le k xs
  have h3 : (xs.take k).length ≤ xs.length := by simp; omega
  omega
theorem c_s_WorldPurge (v u : Value) (ps : List Pe) (es : List Ev) (hn : es.length ≤ 1048576) (cl : Int) (w : World) (hr : RdF w v ps) (hq : RdF w u es) :
    Calls Try.prog 20 #[v, u, .int .i64 cl] w (Ret (fun v' : Value => v') (fun v' => [ownF 76 v' (es.filter (pur ps cl))]) w) := by
  refine enter (args := _) Try.func20 rfl Try.ntmps20 (by simp) ?_
  repeat' (first
    | refine hc_seq ?_ | refine hc_region ?_ | refine hv ?_ | refine hvg ?_ | refine hl_nil ?_ | refine at_then ?_
    | refine hbs0 E.Ev (fun v1 h1 => ?_)
    | refine hb (fun _ => ?_) | refine ha (fun _ => ?_) | refine hs ?_ | refine qv ?_ | refine qvg ?_ | refine hq_nil ?_ | refine hc_quiet mixed (by kernel_rfl) ?_
    | refine ccdt (Opd.pl rfl) (by first | assumption | omega) ?_ | refine ccdf (Opd.pl rfl) (by first | assumption | omega) ?_ | refine ccnt (Opd.pl rfl) (by first | assumption | omega) ?_ | refine ccnf (Opd.pl rfl) (by first | assumption | omega) ?_ | refine ccbt (Opd.pl rfl) (by first | rfl | assumption) ?_ | refine ccbf (Opd.pl rfl) (by first | rfl | assumption) ?_ | refine ccnbt (Opd.pl rfl) (by assumption) ?_ | refine ccnbf (Opd.pl rfl) (by assumption) ?_
    | refine ccd (fun hh => ?_) (fun hh => ?_) | refine ccn (fun hh => ?_) (fun hh => ?_) | refine ccnb (fun hh => ?_) (fun hh => ?_) | refine cc (fun hh => ?_) (fun hh => ?_)
    | refine hc_skip ?_ | refine hc_ret ?_ | refine hc_exit ?_ | refine hc_block ?_ | refine at_then_ret ?_ | refine at_block_ret ?_ | refine at_block_exit ?_ | refine at_block_other rfl ?_ | refine at_then_exit ?_ | refine at_block ?_)
  refine hc_loop (α := Nat × Value) (fun p => p.1 ≤ es.length ∧ p.2.oneCell' = true) (fun p => [(0, .pl v), (1, .pl u), (2, .pl (.int .i64 cl)), (7, .pl p.2), (8, .pl (.int .i64 (p.1 : Int)))]) (fun p => [ownF 76 p.2 ((es.take p.1).filter (pur ps cl))]) (fun p => es.length - p.1) (0, v1) ⟨Nat.zero_le _, by assumption⟩ (FSub.cons rfl (FSub.cons rfl (FSub.cons rfl (FSub.cons rfl (FSub.cons rfl FSub.nil))))) (KSub.ownF (Pick.here _ _) (by simp) (KSub.nil _)) (fun p hp => ?_)
  obtain ⟨k, v2⟩ := p
  obtain ⟨hk, h2⟩ := hp
  simp only at hk h2
  dsimp only
  rcases Nat.lt_or_ge k es.length with hlt | hge
  · obtain ⟨x, hx⟩ : ∃ x, es[k]? = some x := ⟨_, List.getElem?_eq_getElem hlt⟩
    have hle := filter_le (k := k) (pur ps cl) hn
    have hst := filter_step (pur ps cl) hx
    repeat' (first
    | refine hc_seq ?_ | refine hc_region ?_ | refine hv ?_ | refine hvg ?_ | refine hl_nil ?_ | refine at_then ?_
    | refine hcv (fun w hw => c_s_l7Low _ ps _ _ _ _ _ _ _ _ _ _ _ _ _ cl w (hr.now hw)) ?_ | refine hcvg (fun _ w _ => c_s_OpLabel _ _ _ _ _ _ _ _ w) ?_ | refine hcvg (fun _ w _ => c_s_LabelUnder _ _ w) ?_ | refine hbs1 (α := E.Ev) x (fun v3 h3 => ?_) | (refine hap (α := E.Ev) (fun v4 h4 => ?_) ?_; rotate_left; · simp only [List.length_cons, List.length_nil, maxLen]; omega)
    | refine hb (fun _ => ?_) | refine ha (fun _ => ?_) | refine hs ?_ | refine qv ?_ | refine qvg ?_ | refine hq_nil ?_ | refine hc_quiet mixed (by kernel_rfl) ?_
    | refine ccdt (Opd.pl rfl) (by first | assumption | omega) ?_ | refine ccdf (Opd.pl rfl) (by first | assumption | omega) ?_ | refine ccnt (Opd.pl rfl) (by first | assumption | omega) ?_ | refine ccnf (Opd.pl rfl) (by first | assumption | omega) ?_ | refine ccbt (Opd.pl rfl) (by first | rfl | assumption) ?_ | refine ccbf (Opd.pl rfl) (by first | rfl | assumption) ?_ | refine ccnbt (Opd.pl rfl) (by assumption) ?_ | refine ccnbf (Opd.pl rfl) (by assumption) ?_
    | refine ccd (fun hh => ?_) (fun hh => ?_) | refine ccn (fun hh => ?_) (fun hh => ?_) | refine ccnb (fun hh => ?_) (fun hh => ?_) | refine cc (fun hh => ?_) (fun hh => ?_)
    | refine hc_skip ?_ | refine hc_ret ?_ | refine hc_exit ?_ | refine hc_block ?_ | refine at_then_ret ?_ | refine at_block_ret ?_ | refine at_block_exit ?_ | refine at_block_other rfl ?_ | refine at_then_exit ?_ | refine at_block ?_)
    · have hp : pur ps cl x = true := hh
      rw [if_pos hp] at hst
      exact at_round (k + 1, _) ⟨by omega, by assumption⟩ (by simp only; omega) (FSub.cons rfl (FSub.cons rfl (FSub.cons rfl (FSub.cons rfl (FSub.int rfl (by omega) FSub.nil))))) (KSub.ownF (Pick.here _ _) hst.symm (KSub.nil _))
    · have hp : pur ps cl x = false := hh
      rw [if_neg (by rw [hp]; simp), List.append_nil] at hst
      exact at_round (k + 1, v2) ⟨by omega, by assumption⟩ (by simp only; omega) (FSub.cons rfl (FSub.cons rfl (FSub.cons rfl (FSub.cons rfl (FSub.int rfl (by omega) FSub.nil))))) (KSub.ownF (Pick.here _ _) hst.symm (KSub.nil _))
  · repeat' (first
    | refine hc_seq ?_ | refine hc_region ?_ | refine hv ?_ | refine hvg ?_ | refine hl_nil ?_ | refine at_then ?_
    | refine hb (fun _ => ?_) | refine ha (fun _ => ?_) | refine hs ?_ | refine qv ?_ | refine qvg ?_ | refine hq_nil ?_ | refine hc_quiet mixed (by kernel_rfl) ?_
    | refine ccdt (Opd.pl rfl) (by first | assumption | omega) ?_ | refine ccdf (Opd.pl rfl) (by first | assumption | omega) ?_ | refine ccnt (Opd.pl rfl) (by first | assumption | omega) ?_ | refine ccnf (Opd.pl rfl) (by first | assumption | omega) ?_ | refine ccbt (Opd.pl rfl) (by first | rfl | assumption) ?_ | refine ccbf (Opd.pl rfl) (by first | rfl | assumption) ?_ | refine ccnbt (Opd.pl rfl) (by assumption) ?_ | refine ccnbf (Opd.pl rfl) (by assumption) ?_
    | refine ccd (fun hh => ?_) (fun hh => ?_) | refine ccn (fun hh => ?_) (fun hh => ?_) | refine ccnb (fun hh => ?_) (fun hh => ?_) | refine cc (fun hh => ?_) (fun hh => ?_)
    | refine hc_skip ?_ | refine hc_ret ?_ | refine hc_exit ?_ | refine hc_block ?_ | refine at_then_ret ?_ | refine at_block_ret ?_ | refine at_block_exit ?_ | refine at_block_other rfl ?_ | refine at_then_exit ?_ | refine at_block ?_)
    rw [List.take_of_length_le hge]
    exact ret1 _
theorem c_i_WorldPurge (v u : Value) (ps : List Pe) (es : List Ev) (hn : es.length ≤ 1048576) (cl : Int) (w : World) (hr : RdF w v ps) (hq : RdF w u es) :
    Calls Try.prog 23 #[v, u, .int .i64 cl] w (Ret (fun v' : Value => v') (fun v' => [ownF 76 v' (es.filter (pur ps cl))]) w) := by
  refine enter (args := _) Try.func23 rfl Try.ntmps23 (by simp) ?_
  repeat' (first
    | refine hc_seq ?_ | refine hc_region ?_ | refine hv ?_ | refine hvg ?_ | refine hl_nil ?_ | refine at_then ?_
    | refine hb (fun _ => ?_) | refine ha (fun _ => ?_) | refine hs ?_ | refine qv ?_ | refine qvg ?_ | refine hq_nil ?_ | refine hc_quiet mixed (by kernel_rfl) ?_
    | refine ccdt (Opd.pl rfl) (by first | assumption | omega) ?_ | refine ccdf (Opd.pl rfl) (by first | assumption | omega) ?_ | refine ccnt (Opd.pl rfl) (by first | assumption | omega) ?_ | refine ccnf (Opd.pl rfl) (by first | assumption | omega) ?_ | refine ccbt (Opd.pl rfl) (by first | rfl | assumption) ?_ | refine ccbf (Opd.pl rfl) (by first | rfl | assumption) ?_ | refine ccnbt (Opd.pl rfl) (by assumption) ?_ | refine ccnbf (Opd.pl rfl) (by assumption) ?_
    | refine ccd (fun hh => ?_) (fun hh => ?_) | refine ccn (fun hh => ?_) (fun hh => ?_) | refine ccnb (fun hh => ?_) (fun hh => ?_) | refine cc (fun hh => ?_) (fun hh => ?_)
    | refine hc_skip ?_ | refine hc_ret ?_ | refine hc_exit ?_ | refine hc_block ?_ | refine at_then_ret ?_ | refine at_block_ret ?_ | refine at_block_exit ?_ | refine at_block_other rfl ?_ | refine at_then_exit ?_ | refine at_block ?_)
  refine hc_addnil E.Ev 76 ?_
  refine hc_loop (α := Nat × Value) (fun p => p.1 ≤ es.length ∧ p.2.oneCell' = true) (fun p => [(0, .pl v), (2, .pl (.int .i64 cl)), (11, .pl u), (12, .pl (.int .i64 (es.length : Int))), (7, .pl p.2), (13, .pl (.int .i64 (p.1 : Int)))]) (fun p => [ownF 76 p.2 ((es.take p.1).filter (pur ps cl))]) (fun p => es.length - p.1) (0, .slice none 0 0) ⟨Nat.zero_le _, rfl⟩ (FSub.cons rfl (FSub.cons rfl (FSub.cons rfl (FSub.cons rfl (FSub.cons rfl (FSub.cons rfl FSub.nil)))))) (KSub.ownF (Pick.here _ _) (by simp) (KSub.nil _)) (fun p hp => ?_)
  obtain ⟨k, v2⟩ := p
  obtain ⟨hk, h2⟩ := hp
  simp only at hk h2
  dsimp only
  rcases Nat.lt_or_ge k es.length with hlt | hge
  · obtain ⟨x, hx⟩ : ∃ x, es[k]? = some x := ⟨_, List.getElem?_eq_getElem hlt⟩
    have hle := filter_le (k := k) (pur ps cl) hn
    have hst := filter_step (pur ps cl) hx
    have hpu : pur ps cl x = ((decide (x.k = 1) && lun (olab x.o) cl) || low ps x.w cl) := Bool.or_comm _ _
    repeat' (first
    | refine hc_seq ?_ | refine hc_region ?_ | refine hv ?_ | refine hvg ?_ | refine hl_nil ?_ | refine at_then ?_
    | refine hcvg (fun _ w hw => c_i_seesNoMore _ ps _ _ _ _ _ _ _ _ _ _ _ _ _ cl w (hr.now hw)) ?_ | refine hcvg (fun _ w _ => c_i_OpLabel _ _ _ _ _ _ _ _ w) ?_ | refine hcvg (fun _ w _ => c_i_LabelUnder _ _ w) ?_ | refine hbs1 (α := E.Ev) x (fun v3 h3 => ?_) | (refine hap (α := E.Ev) (fun v4 h4 => ?_) ?_; rotate_left; · simp only [List.length_cons, List.length_nil, maxLen]; omega)
    | refine hb (fun _ => ?_) | refine ha (fun _ => ?_) | refine hs ?_ | refine qv ?_ | refine qvg ?_ | refine hq_nil ?_ | refine hc_quiet mixed (by kernel_rfl) ?_
    | refine ccdt (Opd.pl rfl) (by first | assumption | omega) ?_ | refine ccdf (Opd.pl rfl) (by first | assumption | omega) ?_ | refine ccnt (Opd.pl rfl) (by first | assumption | omega) ?_ | refine ccnf (Opd.pl rfl) (by first | assumption | omega) ?_ | refine ccbt (Opd.pl rfl) (by first | rfl | assumption) ?_ | refine ccbf (Opd.pl rfl) (by first | rfl | assumption) ?_ | refine ccnbt (Opd.pl rfl) (by assumption) ?_ | refine ccnbf (Opd.pl rfl) (by assumption) ?_
    | refine ccd (fun hh => ?_) (fun hh => ?_) | refine ccn (fun hh => ?_) (fun hh => ?_) | refine ccnb (fun hh => ?_) (fun hh => ?_) | refine cc (fun hh => ?_) (fun hh => ?_)
    | refine hc_skip ?_ | refine hc_ret ?_ | refine hc_exit ?_ | refine hc_block ?_ | refine at_then_ret ?_ | refine at_block_ret ?_ | refine at_block_exit ?_ | refine at_block_other rfl ?_ | refine at_then_exit ?_ | refine at_block ?_)
    · have hp : pur ps cl x = true := hpu.trans hh
      rw [if_pos hp] at hst
      exact at_round (k + 1, _) ⟨by omega, by assumption⟩ (by simp only; omega) (FSub.cons rfl (FSub.cons rfl (FSub.cons rfl (FSub.cons rfl (FSub.cons rfl (FSub.int rfl (by omega) FSub.nil)))))) (KSub.ownF (Pick.here _ _) hst.symm (KSub.nil _))
    · have hp : pur ps cl x = false := hpu.trans hh
      rw [if_neg (by rw [hp]; simp), List.append_nil] at hst
      exact at_round (k + 1, v2) ⟨by omega, by assumption⟩ (by simp only; omega) (FSub.cons rfl (FSub.cons rfl (FSub.cons rfl (FSub.cons rfl (FSub.cons rfl (FSub.int rfl (by omega) FSub.nil)))))) (KSub.ownF (by repeat (first | exact Pick.here _ _ | apply Pick.there)) hst.symm (KSub.nil _))
  · repeat' (first
    | refine hc_seq ?_ | refine hc_region ?_ | refine hv ?_ | refine hvg ?_ | refine hl_nil ?_ | refine at_then ?_
    | refine hb (fun _ => ?_) | refine ha (fun _ => ?_) | refine hs ?_ | refine qv ?_ | refine qvg ?_ | refine hq_nil ?_ | refine hc_quiet mixed (by kernel_rfl) ?_
    | refine ccdt (Opd.pl rfl) (by first | assumption | omega) ?_ | refine ccdf (Opd.pl rfl) (by first | assumption | omega) ?_ | refine ccnt (Opd.pl rfl) (by first | assumption | omega) ?_ | refine ccnf (Opd.pl rfl) (by first | assumption | omega) ?_ | refine ccbt (Opd.pl rfl) (by first | rfl | assumption) ?_ | refine ccbf (Opd.pl rfl) (by first | rfl | assumption) ?_ | refine ccnbt (Opd.pl rfl) (by assumption) ?_ | refine ccnbf (Opd.pl rfl) (by assumption) ?_
    | refine ccd (fun hh => ?_) (fun hh => ?_) | refine ccn (fun hh => ?_) (fun hh => ?_) | refine ccnb (fun hh => ?_) (fun hh => ?_) | refine cc (fun hh => ?_) (fun hh => ?_)
    | refine hc_skip ?_ | refine hc_ret ?_ | refine hc_exit ?_ | refine hc_block ?_ | refine at_then_ret ?_ | refine at_block_ret ?_ | refine at_block_exit ?_ | refine at_block_other rfl ?_ | refine at_then_exit ?_ | refine at_block ?_)
    rw [List.take_of_length_le hge]
    exact ret1 _
end E
end Go.Proofs.Ytbplkdibjjcomaa
