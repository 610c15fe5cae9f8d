/- Told rows: sameness as the program and the reference say it. -/
import Derived.Test.YtbplkdibjjcomaaDn
import Derived.Test.YtbplkdibjjcomaaEngP
namespace Go.Proofs.Ytbplkdibjjcomaa
namespace E
open Go Go.RowKit
set_option linter.unusedSimpArgs false
set_option linter.unusedVariables false
set_option maxHeartbeats 1000000
set_option maxRecDepth 10000
attribute [local irreducible] HC HL HQ HX HO At Y YV Opd Opds KnX Sl Ld Src GV RV Calls Code.wp eptr adr RdF ownF OneX
theorem c_l7Ints (v u : Value) (xs ys : List Int) (w : World) (hr : RdF w v xs) (hq : RdF w u ys) : Calls Try.prog 35 #[v, u] w (Ret (fun _ : Unit => .bool (decide (xs = ys))) (fun _ => []) w) := by
  have m1 := hr.le
  have m2 := hq.le
  simp only [maxLen] at m1 m2
  refine enter (args := _) Try.func35 rfl Try.ntmps35 (by simp) ?_
  repeat' (first
    | refine hc_seq ?_ | refine hc_region ?_ | refine hv ?_ | refine hvg ?_ | refine hl_nil ?_ | refine at_then ?_
    | refine hb (fun _ => ?_) | refine ha (fun _ => ?_) | refine hs ?_ | refine qv ?_ | refine qvg ?_ | refine hq_nil ?_ | refine hc_quiet mixed (by kernel_rfl) ?_
    | refine ccdt (Opd.pl rfl) (by first | assumption | omega) ?_ | refine ccdf (Opd.pl rfl) (by first | assumption | omega) ?_ | refine ccnt (Opd.pl rfl) (by first | assumption | omega) ?_ | refine ccnf (Opd.pl rfl) (by first | assumption | omega) ?_ | refine ccbt (Opd.pl rfl) (by first | rfl | assumption) ?_ | refine ccbf (Opd.pl rfl) (by first | rfl | assumption) ?_ | refine ccnbt (Opd.pl rfl) (by assumption) ?_ | refine ccnbf (Opd.pl rfl) (by assumption) ?_
    | refine ccd (fun hh => ?_) (fun hh => ?_) | refine ccn (fun hh => ?_) (fun hh => ?_) | refine ccnb (fun hh => ?_) (fun hh => ?_) | refine cc (fun hh => ?_) (fun hh => ?_)
    | refine hc_skip ?_ | refine hc_ret ?_ | refine hc_exit ?_ | refine hc_block ?_ | refine at_then_ret ?_ | refine at_block_ret ?_ | refine at_block_exit ?_ | refine at_block_other rfl ?_ | refine at_then_exit ?_ | refine at_block ?_)
  · refine ret0 ?_
    simp only [Value.bool.injEq]
    symm
    apply decide_eq_false
    rintro rfl
    simp_all
  have hlen : xs.length = ys.length := by omega
  refine hc_loop (α := Nat) (fun k => k ≤ xs.length ∧ xs.take k = ys.take k) (fun k => [(0, .pl v), (1, .pl u), (5, .pl (.int .i64 (k : Int)))]) (fun k => []) (fun k => xs.length - k) 0 ⟨Nat.zero_le _, rfl⟩ (FSub.cons rfl (FSub.cons rfl (FSub.cons rfl FSub.nil))) (KSub.nil _) (fun k hk0 => ?_)
  obtain ⟨hk1, hk2⟩ := hk0
  rcases Nat.lt_or_ge k xs.length with hlt | hge
  · obtain ⟨x, hx⟩ : ∃ x, xs[k]? = some x := ⟨_, List.getElem?_eq_getElem hlt⟩
    obtain ⟨y, hy⟩ : ∃ y, ys[k]? = some y := ⟨_, List.getElem?_eq_getElem (hlen ▸ hlt)⟩
    have hlt' : k < ys.length := hlen ▸ hlt
    repeat' (first
    | refine hc_seq ?_ | refine hc_region ?_ | refine hv ?_ | refine hvg ?_ | refine hl_nil ?_ | refine at_then ?_
    | refine hb (fun _ => ?_) | refine ha (fun _ => ?_) | refine hs ?_ | refine qv ?_ | refine qvg ?_ | refine hq_nil ?_ | refine hc_quiet mixed (by kernel_rfl) ?_
    | refine ccdt (Opd.pl rfl) (by first | assumption | omega) ?_ | refine ccdf (Opd.pl rfl) (by first | assumption | omega) ?_ | refine ccnt (Opd.pl rfl) (by first | assumption | omega) ?_ | refine ccnf (Opd.pl rfl) (by first | assumption | omega) ?_ | refine ccbt (Opd.pl rfl) (by first | rfl | assumption) ?_ | refine ccbf (Opd.pl rfl) (by first | rfl | assumption) ?_ | refine ccnbt (Opd.pl rfl) (by assumption) ?_ | refine ccnbf (Opd.pl rfl) (by assumption) ?_
    | refine ccd (fun hh => ?_) (fun hh => ?_) | refine ccn (fun hh => ?_) (fun hh => ?_) | refine ccnb (fun hh => ?_) (fun hh => ?_) | refine cc (fun hh => ?_) (fun hh => ?_)
    | refine hc_skip ?_ | refine hc_ret ?_ | refine hc_exit ?_ | refine hc_block ?_ | refine at_then_ret ?_ | refine at_block_ret ?_ | refine at_block_exit ?_ | refine at_block_other rfl ?_ | refine at_then_exit ?_ | refine at_block ?_)
    · refine ret0 ?_
      simp only [Value.bool.injEq]
      symm
      apply decide_eq_false
      rintro rfl
      rw [hx] at hy
      injection hy with hy
      subst hy
      simp at hh
    · refine at_round (k + 1) ⟨by omega, ?_⟩ (by omega) (FSub.cons rfl (FSub.cons rfl (FSub.int rfl (by omega) FSub.nil))) (KSub.nil _)
      have hxy : x = y := by first | exact hh | simpa using hh
      rw [List.take_add_one, List.take_add_one, hk2, hx, hy, hxy]
  · repeat' (first
    | refine hc_seq ?_ | refine hc_region ?_ | refine hv ?_ | refine hvg ?_ | refine hl_nil ?_ | refine at_then ?_
    | refine hb (fun _ => ?_) | refine ha (fun _ => ?_) | refine hs ?_ | refine qv ?_ | refine qvg ?_ | refine hq_nil ?_ | refine hc_quiet mixed (by kernel_rfl) ?_
    | refine ccdt (Opd.pl rfl) (by first | assumption | omega) ?_ | refine ccdf (Opd.pl rfl) (by first | assumption | omega) ?_ | refine ccnt (Opd.pl rfl) (by first | assumption | omega) ?_ | refine ccnf (Opd.pl rfl) (by first | assumption | omega) ?_ | refine ccbt (Opd.pl rfl) (by first | rfl | assumption) ?_ | refine ccbf (Opd.pl rfl) (by first | rfl | assumption) ?_ | refine ccnbt (Opd.pl rfl) (by assumption) ?_ | refine ccnbf (Opd.pl rfl) (by assumption) ?_
    | refine ccd (fun hh => ?_) (fun hh => ?_) | refine ccn (fun hh => ?_) (fun hh => ?_) | refine ccnb (fun hh => ?_) (fun hh => ?_) | refine cc (fun hh => ?_) (fun hh => ?_)
    | refine hc_skip ?_ | refine hc_ret ?_ | refine hc_exit ?_ | refine hc_block ?_ | refine at_then_ret ?_ | refine at_block_ret ?_ | refine at_block_exit ?_ | refine at_block_other rfl ?_ | refine at_then_exit ?_ | refine at_block ?_)
    refine ret0 ?_
    simp only [Value.bool.injEq]
    symm
    apply decide_eq_true
    rw [List.take_of_length_le hge, List.take_of_length_le (by omega)] at hk2
    exact hk2
theorem c_equalInts (v u : Value) (xs ys : List Int) (w : World) (hr : RdF w v xs) (hq : RdF w u ys) : Calls Try.prog 39 #[v, u] w (Ret (fun _ : Unit => .bool (decide (xs = ys))) (fun _ => []) w) := by
  have m1 := hr.le
  have m2 := hq.le
  simp only [maxLen] at m1 m2
  refine enter (args := _) Try.func39 rfl Try.ntmps39 (by simp) ?_
  repeat' (first
    | refine hc_seq ?_ | refine hc_region ?_ | refine hv ?_ | refine hvg ?_ | refine hl_nil ?_ | refine at_then ?_
    | refine hb (fun _ => ?_) | refine ha (fun _ => ?_) | refine hs ?_ | refine qv ?_ | refine qvg ?_ | refine hq_nil ?_ | refine hc_quiet mixed (by kernel_rfl) ?_
    | refine ccdt (Opd.pl rfl) (by first | assumption | omega) ?_ | refine ccdf (Opd.pl rfl) (by first | assumption | omega) ?_ | refine ccnt (Opd.pl rfl) (by first | assumption | omega) ?_ | refine ccnf (Opd.pl rfl) (by first | assumption | omega) ?_ | refine ccbt (Opd.pl rfl) (by first | rfl | assumption) ?_ | refine ccbf (Opd.pl rfl) (by first | rfl | assumption) ?_ | refine ccnbt (Opd.pl rfl) (by assumption) ?_ | refine ccnbf (Opd.pl rfl) (by assumption) ?_
    | refine ccd (fun hh => ?_) (fun hh => ?_) | refine ccn (fun hh => ?_) (fun hh => ?_) | refine ccnb (fun hh => ?_) (fun hh => ?_) | refine cc (fun hh => ?_) (fun hh => ?_)
    | refine hc_skip ?_ | refine hc_ret ?_ | refine hc_exit ?_ | refine hc_block ?_ | refine at_then_ret ?_ | refine at_block_ret ?_ | refine at_block_exit ?_ | refine at_block_other rfl ?_ | refine at_then_exit ?_ | refine at_block ?_)
  · refine ret0 ?_
    simp only [Value.bool.injEq]
    symm
    apply decide_eq_false
    rintro rfl
    simp_all
  have hlen : xs.length = ys.length := by omega
  refine hc_loop (α := Nat) (fun k => k ≤ xs.length ∧ xs.take k = ys.take k) (fun k => [(0, .pl v), (1, .pl u), (12, .pl (.int .i64 (xs.length : Int))), (13, .pl (.int .i64 (k : Int)))]) (fun k => []) (fun k => xs.length - k) 0 ⟨Nat.zero_le _, rfl⟩ (FSub.cons rfl (FSub.cons rfl (FSub.cons rfl (FSub.cons rfl FSub.nil)))) (KSub.nil _) (fun k hk0 => ?_)
  obtain ⟨hk1, hk2⟩ := hk0
  rcases Nat.lt_or_ge k xs.length with hlt | hge
  · obtain ⟨x, hx⟩ : ∃ x, xs[k]? = some x := ⟨_, List.getElem?_eq_getElem hlt⟩
    obtain ⟨y, hy⟩ : ∃ y, ys[k]? = some y := ⟨_, List.getElem?_eq_getElem (hlen ▸ hlt)⟩
    have hlt' : k < ys.length := hlen ▸ hlt
    repeat' (first
    | refine hc_seq ?_ | refine hc_region ?_ | refine hv ?_ | refine hvg ?_ | refine hl_nil ?_ | refine at_then ?_
    | refine hb (fun _ => ?_) | refine ha (fun _ => ?_) | refine hs ?_ | refine qv ?_ | refine qvg ?_ | refine hq_nil ?_ | refine hc_quiet mixed (by kernel_rfl) ?_
    | refine ccdt (Opd.pl rfl) (by first | assumption | omega) ?_ | refine ccdf (Opd.pl rfl) (by first | assumption | omega) ?_ | refine ccnt (Opd.pl rfl) (by first | assumption | omega) ?_ | refine ccnf (Opd.pl rfl) (by first | assumption | omega) ?_ | refine ccbt (Opd.pl rfl) (by first | rfl | assumption) ?_ | refine ccbf (Opd.pl rfl) (by first | rfl | assumption) ?_ | refine ccnbt (Opd.pl rfl) (by assumption) ?_ | refine ccnbf (Opd.pl rfl) (by assumption) ?_
    | refine ccd (fun hh => ?_) (fun hh => ?_) | refine ccn (fun hh => ?_) (fun hh => ?_) | refine ccnb (fun hh => ?_) (fun hh => ?_) | refine cc (fun hh => ?_) (fun hh => ?_)
    | refine hc_skip ?_ | refine hc_ret ?_ | refine hc_exit ?_ | refine hc_block ?_ | refine at_then_ret ?_ | refine at_block_ret ?_ | refine at_block_exit ?_ | refine at_block_other rfl ?_ | refine at_then_exit ?_ | refine at_block ?_)
    · refine ret0 ?_
      simp only [Value.bool.injEq]
      symm
      apply decide_eq_false
      rintro rfl
      rw [hx] at hy
      injection hy with hy
      subst hy
      simp at hh
    · refine at_round (k + 1) ⟨by omega, ?_⟩ (by omega) (FSub.cons rfl (FSub.cons rfl (FSub.cons rfl (FSub.int rfl (by omega) FSub.nil)))) (KSub.nil _)
      have hxy : x = y := by first | exact hh | simpa using hh
      rw [List.take_add_one, List.take_add_one, hk2, hx, hy, hxy]
  · repeat' (first
    | refine hc_seq ?_ | refine hc_region ?_ | refine hv ?_ | refine hvg ?_ | refine hl_nil ?_ | refine at_then ?_
    | refine hb (fun _ => ?_) | refine ha (fun _ => ?_) | refine hs ?_ | refine qv ?_ | refine qvg ?_ | refine hq_nil ?_ | refine hc_quiet mixed (by kernel_rfl) ?_
    | refine ccdt (Opd.pl rfl) (by first | assumption | omega) ?_ | refine ccdf (Opd.pl rfl) (by first | assumption | omega) ?_ | refine ccnt (Opd.pl rfl) (by first | assumption | omega) ?_ | refine ccnf (Opd.pl rfl) (by first | assumption | omega) ?_ | refine ccbt (Opd.pl rfl) (by first | rfl | assumption) ?_ | refine ccbf (Opd.pl rfl) (by first | rfl | assumption) ?_ | refine ccnbt (Opd.pl rfl) (by assumption) ?_ | refine ccnbf (Opd.pl rfl) (by assumption) ?_
    | refine ccd (fun hh => ?_) (fun hh => ?_) | refine ccn (fun hh => ?_) (fun hh => ?_) | refine ccnb (fun hh => ?_) (fun hh => ?_) | refine cc (fun hh => ?_) (fun hh => ?_)
    | refine hc_skip ?_ | refine hc_ret ?_ | refine hc_exit ?_ | refine hc_block ?_ | refine at_then_ret ?_ | refine at_block_ret ?_ | refine at_block_exit ?_ | refine at_block_other rfl ?_ | refine at_then_exit ?_ | refine at_block ?_)
    refine ret0 ?_
    simp only [Value.bool.injEq]
    symm
    apply decide_eq_true
    rw [List.take_of_length_le hge, List.take_of_length_le (by omega)] at hk2
    exact hk2
theorem c_told1 (c r : Int) (A : Option Addr) (n m : Nat) (xs : List Int) (c' r' : Int) (A' : Option Addr) (n' m' : Nat) (ys : List Int) (w : World) (hr : RdF w (.slice A n m) xs) (hq : RdF w (.slice A' n' m') ys) :
    Calls Try.prog 38 #[.agg #[.int .i64 c, .slice A n m, .int .i64 r], .agg #[.int .i64 c', .slice A' n' m', .int .i64 r']] w (Ret (fun _ : Unit => .bool (decide (c = c') && decide (xs = ys) && decide (r = r'))) (fun _ => []) w) := by
  refine enter (args := _) Try.func38 rfl Try.ntmps38 (by simp) ?_
  repeat' (first
    | refine hc_seq ?_ | refine hc_region ?_ | refine hv ?_ | refine hvg ?_ | refine hl_nil ?_ | refine at_then ?_
    | refine hcvg2 (fun _ w _ a b => c_equalInts _ _ xs ys w a b) ?_
    | refine hb (fun _ => ?_) | refine ha (fun _ => ?_) | refine hs ?_ | refine qv ?_ | refine qvg ?_ | refine hq_nil ?_ | refine hc_quiet mixed (by kernel_rfl) ?_
    | refine ccdt (Opd.pl rfl) (by first | assumption | omega) ?_ | refine ccdf (Opd.pl rfl) (by first | assumption | omega) ?_ | refine ccnt (Opd.pl rfl) (by first | assumption | omega) ?_ | refine ccnf (Opd.pl rfl) (by first | assumption | omega) ?_ | refine ccbt (Opd.pl rfl) (by first | rfl | assumption) ?_ | refine ccbf (Opd.pl rfl) (by first | rfl | assumption) ?_ | refine ccnbt (Opd.pl rfl) (by assumption) ?_ | refine ccnbf (Opd.pl rfl) (by assumption) ?_
    | refine ccd (fun hh => ?_) (fun hh => ?_) | refine ccn (fun hh => ?_) (fun hh => ?_) | refine ccnb (fun hh => ?_) (fun hh => ?_) | refine cc (fun hh => ?_) (fun hh => ?_)
    | refine hc_skip ?_ | refine hc_ret ?_ | refine hc_exit ?_ | refine hc_block ?_ | refine at_then_ret ?_ | refine at_block_ret ?_ | refine at_block_exit ?_ | refine at_block_other rfl ?_ | refine at_then_exit ?_ | refine at_block ?_)
  exact ret0
theorem c_s_ToldSame (v u : Value) (ts ss : List Td) (w : World) (hr : RdT w v ts) (hq : RdT w u ss) : Calls Try.prog 14 #[v, u] w (Ret (fun _ : Unit => .bool (decide (ts = ss))) (fun _ => []) w) := by
  obtain ⟨xs, hx0, hl, hin⟩ := hr
  obtain ⟨ys, hy0, hl', hin'⟩ := hq
  have m1 := hx0.le
  have m2 := hy0.le
  simp only [maxLen] at m1 m2
  refine enter (args := _) Try.func14 rfl Try.ntmps14 (by simp) ?_
  repeat' (first
    | refine hc_seq ?_ | refine hc_region ?_ | refine hv ?_ | refine hvg ?_ | refine hl_nil ?_ | refine at_then ?_
    | refine hb (fun _ => ?_) | refine ha (fun _ => ?_) | refine hs ?_ | refine qv ?_ | refine qvg ?_ | refine hq_nil ?_ | refine hc_quiet mixed (by kernel_rfl) ?_
    | refine ccdt (Opd.pl rfl) (by first | assumption | omega) ?_ | refine ccdf (Opd.pl rfl) (by first | assumption | omega) ?_ | refine ccnt (Opd.pl rfl) (by first | assumption | omega) ?_ | refine ccnf (Opd.pl rfl) (by first | assumption | omega) ?_ | refine ccbt (Opd.pl rfl) (by first | rfl | assumption) ?_ | refine ccbf (Opd.pl rfl) (by first | rfl | assumption) ?_ | refine ccnbt (Opd.pl rfl) (by assumption) ?_ | refine ccnbf (Opd.pl rfl) (by assumption) ?_
    | refine ccd (fun hh => ?_) (fun hh => ?_) | refine ccn (fun hh => ?_) (fun hh => ?_) | refine ccnb (fun hh => ?_) (fun hh => ?_) | refine cc (fun hh => ?_) (fun hh => ?_)
    | refine hc_skip ?_ | refine hc_ret ?_ | refine hc_exit ?_ | refine hc_block ?_ | refine at_then_ret ?_ | refine at_block_ret ?_ | refine at_block_exit ?_ | refine at_block_other rfl ?_ | refine at_then_exit ?_ | refine at_block ?_)
  · refine ret0 ?_
    simp only [Value.bool.injEq]
    symm
    apply decide_eq_false
    rintro rfl
    omega
  have hlen : xs.length = ys.length := by omega
  refine hc_loop (α := Nat) (fun k => k ≤ xs.length ∧ ts.take k = ss.take k) (fun k => [(0, .pl v), (1, .pl u), (5, .pl (.int .i64 (k : Int)))]) (fun k => []) (fun k => xs.length - k) 0 ⟨Nat.zero_le _, rfl⟩ (FSub.cons rfl (FSub.cons rfl (FSub.cons rfl FSub.nil))) (KSub.nil _) (fun k hk0 => ?_)
  obtain ⟨hk1, hk2⟩ := hk0
  rcases Nat.lt_or_ge k xs.length with hlt | hge
  · obtain ⟨x, hx⟩ : ∃ x, xs[k]? = some x := ⟨_, List.getElem?_eq_getElem hlt⟩
    obtain ⟨y, hy⟩ : ∃ y, ys[k]? = some y := ⟨_, List.getElem?_eq_getElem (hlen ▸ hlt)⟩
    obtain ⟨t, ht⟩ : ∃ t, ts[k]? = some t := ⟨_, List.getElem?_eq_getElem (hl ▸ hlt)⟩
    obtain ⟨s, hs'⟩ : ∃ s, ss[k]? = some s := ⟨_, List.getElem?_eq_getElem (hl' ▸ hlen ▸ hlt)⟩
    have hlt' : k < ys.length := hlen ▸ hlt
    obtain ⟨g1, g2, g3⟩ := hin k x t hx ht
    obtain ⟨g4, g5, g6⟩ := hin' k y s hy hs'
    repeat' (first
    | refine hc_seq ?_ | refine hc_region ?_ | refine hv ?_ | refine hvg ?_ | refine hl_nil ?_ | refine at_then ?_
    | refine qcvg2 (fun _ w _ a b => c_l7Ints _ _ t.a s.a w a b) ?_
    | refine hb (fun _ => ?_) | refine ha (fun _ => ?_) | refine hs ?_ | refine qv ?_ | refine qvg ?_ | refine hq_nil ?_ | refine hc_quiet mixed (by kernel_rfl) ?_
    | refine ccdt (Opd.pl rfl) (by first | assumption | omega) ?_ | refine ccdf (Opd.pl rfl) (by first | assumption | omega) ?_ | refine ccnt (Opd.pl rfl) (by first | assumption | omega) ?_ | refine ccnf (Opd.pl rfl) (by first | assumption | omega) ?_ | refine ccbt (Opd.pl rfl) (by first | rfl | assumption) ?_ | refine ccbf (Opd.pl rfl) (by first | rfl | assumption) ?_ | refine ccnbt (Opd.pl rfl) (by assumption) ?_ | refine ccnbf (Opd.pl rfl) (by assumption) ?_
    | refine ccd (fun hh => ?_) (fun hh => ?_) | refine ccn (fun hh => ?_) (fun hh => ?_) | refine ccnb (fun hh => ?_) (fun hh => ?_) | refine cc (fun hh => ?_) (fun hh => ?_)
    | refine hc_skip ?_ | refine hc_ret ?_ | refine hc_exit ?_ | refine hc_block ?_ | refine at_then_ret ?_ | refine at_block_ret ?_ | refine at_block_exit ?_ | refine at_block_other rfl ?_ | refine at_then_exit ?_ | refine at_block ?_)
    · refine ret0 ?_
      simp only [Value.bool.injEq]
      symm
      apply decide_eq_false
      rintro rfl
      rw [ht] at hs'
      injection hs' with hs'
      subst hs'
      simp [g1, g2, g4, g5] at hh
    · refine at_round (k + 1) ⟨by omega, ?_⟩ (by omega) (FSub.cons rfl (FSub.cons rfl (FSub.int rfl (by omega) FSub.nil))) (KSub.nil _)
      have hxy : t = s := by
        cases t; cases s
        simp_all
      rw [List.take_add_one, List.take_add_one, hk2, ht, hs', hxy]
  · repeat' (first
    | refine hc_seq ?_ | refine hc_region ?_ | refine hv ?_ | refine hvg ?_ | refine hl_nil ?_ | refine at_then ?_
    | refine hb (fun _ => ?_) | refine ha (fun _ => ?_) | refine hs ?_ | refine qv ?_ | refine qvg ?_ | refine hq_nil ?_ | refine hc_quiet mixed (by kernel_rfl) ?_
    | refine ccdt (Opd.pl rfl) (by first | assumption | omega) ?_ | refine ccdf (Opd.pl rfl) (by first | assumption | omega) ?_ | refine ccnt (Opd.pl rfl) (by first | assumption | omega) ?_ | refine ccnf (Opd.pl rfl) (by first | assumption | omega) ?_ | refine ccbt (Opd.pl rfl) (by first | rfl | assumption) ?_ | refine ccbf (Opd.pl rfl) (by first | rfl | assumption) ?_ | refine ccnbt (Opd.pl rfl) (by assumption) ?_ | refine ccnbf (Opd.pl rfl) (by assumption) ?_
    | refine ccd (fun hh => ?_) (fun hh => ?_) | refine ccn (fun hh => ?_) (fun hh => ?_) | refine ccnb (fun hh => ?_) (fun hh => ?_) | refine cc (fun hh => ?_) (fun hh => ?_)
    | refine hc_skip ?_ | refine hc_ret ?_ | refine hc_exit ?_ | refine hc_block ?_ | refine at_then_ret ?_ | refine at_block_ret ?_ | refine at_block_exit ?_ | refine at_block_other rfl ?_ | refine at_then_exit ?_ | refine at_block ?_)
    refine ret0 ?_
    simp only [Value.bool.injEq]
    symm
    apply decide_eq_true
    rw [List.take_of_length_le (by omega), List.take_of_length_le (by omega)] at hk2
    exact hk2
theorem c_equalTold (v u : Value) (ts ss : List Td) (w : World) (hr : RdT w v ts) (hq : RdT w u ss) : Calls Try.prog 37 #[v, u, .func (.func 38) #[] #[]] w (Ret (fun _ : Unit => .bool (decide (ts = ss))) (fun _ => []) w) := by
  obtain ⟨xs, hx0, hl, hin⟩ := hr
  obtain ⟨ys, hy0, hl', hin'⟩ := hq
  have m1 := hx0.le
  have m2 := hy0.le
  simp only [maxLen] at m1 m2
  refine enter (args := _) Try.func37 rfl Try.ntmps37 (by simp) ?_
  repeat' (first
    | refine hc_seq ?_ | refine hc_region ?_ | refine hv ?_ | refine hvg ?_ | refine hl_nil ?_ | refine at_then ?_
    | refine hb (fun _ => ?_) | refine ha (fun _ => ?_) | refine hs ?_ | refine qv ?_ | refine qvg ?_ | refine hq_nil ?_ | refine hc_quiet mixed (by kernel_rfl) ?_
    | refine ccdt (Opd.pl rfl) (by first | assumption | omega) ?_ | refine ccdf (Opd.pl rfl) (by first | assumption | omega) ?_ | refine ccnt (Opd.pl rfl) (by first | assumption | omega) ?_ | refine ccnf (Opd.pl rfl) (by first | assumption | omega) ?_ | refine ccbt (Opd.pl rfl) (by first | rfl | assumption) ?_ | refine ccbf (Opd.pl rfl) (by first | rfl | assumption) ?_ | refine ccnbt (Opd.pl rfl) (by assumption) ?_ | refine ccnbf (Opd.pl rfl) (by assumption) ?_
    | refine ccd (fun hh => ?_) (fun hh => ?_) | refine ccn (fun hh => ?_) (fun hh => ?_) | refine ccnb (fun hh => ?_) (fun hh => ?_) | refine cc (fun hh => ?_) (fun hh => ?_)
    | refine hc_skip ?_ | refine hc_ret ?_ | refine hc_exit ?_ | refine hc_block ?_ | refine at_then_ret ?_ | refine at_block_ret ?_ | refine at_block_exit ?_ | refine at_block_other rfl ?_ | refine at_then_exit ?_ | refine at_block ?_)
  · refine ret0 ?_
    simp only [Value.bool.injEq]
    symm
    apply decide_eq_false
    rintro rfl
    omega
  have hlen : xs.length = ys.length := by omega
  refine hc_loop (α := Nat) (fun k => k ≤ xs.length ∧ ts.take k = ss.take k) (fun k => [(1, .pl u), (2, .pl (.func (.func 38) #[] #[])), (15, .pl v), (16, .pl (.int .i64 (xs.length : Int))), (17, .pl (.int .i64 (k : Int)))]) (fun k => []) (fun k => xs.length - k) 0 ⟨Nat.zero_le _, rfl⟩ (FSub.cons rfl (FSub.cons rfl (FSub.cons rfl (FSub.cons rfl (FSub.cons rfl FSub.nil))))) (KSub.nil _) (fun k hk0 => ?_)
  obtain ⟨hk1, hk2⟩ := hk0
  rcases Nat.lt_or_ge k xs.length with hlt | hge
  · obtain ⟨x, hx⟩ : ∃ x, xs[k]? = some x := ⟨_, List.getElem?_eq_getElem hlt⟩
    obtain ⟨y, hy⟩ : ∃ y, ys[k]? = some y := ⟨_, List.getElem?_eq_getElem (hlen ▸ hlt)⟩
    obtain ⟨t, ht⟩ : ∃ t, ts[k]? = some t := ⟨_, List.getElem?_eq_getElem (hl ▸ hlt)⟩
    obtain ⟨s, hs'⟩ : ∃ s, ss[k]? = some s := ⟨_, List.getElem?_eq_getElem (hl' ▸ hlen ▸ hlt)⟩
    have hlt' : k < ys.length := hlen ▸ hlt
    obtain ⟨g1, g2, g3⟩ := hin k x t hx ht
    obtain ⟨g4, g5, g6⟩ := hin' k y s hy hs'
    repeat' (first
    | refine hc_seq ?_ | refine hc_region ?_ | refine hv ?_ | refine hvg ?_ | refine hl_nil ?_ | refine at_then ?_
    | refine hct (fun w hw => c_told1 _ _ _ _ _ t.a _ _ _ _ _ s.a w (g3.now hw) (g6.now hw)) ?_
    | refine hb (fun _ => ?_) | refine ha (fun _ => ?_) | refine hs ?_ | refine qv ?_ | refine qvg ?_ | refine hq_nil ?_ | refine hc_quiet mixed (by kernel_rfl) ?_
    | refine ccdt (Opd.pl rfl) (by first | assumption | omega) ?_ | refine ccdf (Opd.pl rfl) (by first | assumption | omega) ?_ | refine ccnt (Opd.pl rfl) (by first | assumption | omega) ?_ | refine ccnf (Opd.pl rfl) (by first | assumption | omega) ?_ | refine ccbt (Opd.pl rfl) (by first | rfl | assumption) ?_ | refine ccbf (Opd.pl rfl) (by first | rfl | assumption) ?_ | refine ccnbt (Opd.pl rfl) (by assumption) ?_ | refine ccnbf (Opd.pl rfl) (by assumption) ?_
    | refine ccd (fun hh => ?_) (fun hh => ?_) | refine ccn (fun hh => ?_) (fun hh => ?_) | refine ccnb (fun hh => ?_) (fun hh => ?_) | refine cc (fun hh => ?_) (fun hh => ?_)
    | refine hc_skip ?_ | refine hc_ret ?_ | refine hc_exit ?_ | refine hc_block ?_ | refine at_then_ret ?_ | refine at_block_ret ?_ | refine at_block_exit ?_ | refine at_block_other rfl ?_ | refine at_then_exit ?_ | refine at_block ?_)
    · refine ret0 ?_
      simp only [Value.bool.injEq]
      symm
      apply decide_eq_false
      rintro rfl
      rw [ht] at hs'
      injection hs' with hs'
      subst hs'
      simp [g1, g2, g4, g5] at hh
    · refine at_round (k + 1) ⟨by omega, ?_⟩ (by omega) (FSub.cons rfl (FSub.cons rfl (FSub.cons rfl (FSub.cons rfl (FSub.int rfl (by omega) FSub.nil))))) (KSub.nil _)
      have hxy : t = s := by
        cases t; cases s
        simp_all
      rw [List.take_add_one, List.take_add_one, hk2, ht, hs', hxy]
  · repeat' (first
    | refine hc_seq ?_ | refine hc_region ?_ | refine hv ?_ | refine hvg ?_ | refine hl_nil ?_ | refine at_then ?_
    | refine hb (fun _ => ?_) | refine ha (fun _ => ?_) | refine hs ?_ | refine qv ?_ | refine qvg ?_ | refine hq_nil ?_ | refine hc_quiet mixed (by kernel_rfl) ?_
    | refine ccdt (Opd.pl rfl) (by first | assumption | omega) ?_ | refine ccdf (Opd.pl rfl) (by first | assumption | omega) ?_ | refine ccnt (Opd.pl rfl) (by first | assumption | omega) ?_ | refine ccnf (Opd.pl rfl) (by first | assumption | omega) ?_ | refine ccbt (Opd.pl rfl) (by first | rfl | assumption) ?_ | refine ccbf (Opd.pl rfl) (by first | rfl | assumption) ?_ | refine ccnbt (Opd.pl rfl) (by assumption) ?_ | refine ccnbf (Opd.pl rfl) (by assumption) ?_
    | refine ccd (fun hh => ?_) (fun hh => ?_) | refine ccn (fun hh => ?_) (fun hh => ?_) | refine ccnb (fun hh => ?_) (fun hh => ?_) | refine cc (fun hh => ?_) (fun hh => ?_)
    | refine hc_skip ?_ | refine hc_ret ?_ | refine hc_exit ?_ | refine hc_block ?_ | refine at_then_ret ?_ | refine at_block_ret ?_ | refine at_block_exit ?_ | refine at_block_other rfl ?_ | refine at_then_exit ?_ | refine at_block ?_)
    refine ret0 ?_
    simp only [Value.bool.injEq]
    symm
    apply decide_eq_true
    rw [List.take_of_length_le (by omega), List.take_of_length_le (by omega)] at hk2
    exact hk2
theorem c_i_ToldSame (v u : Value) (ts ss : List Td) (w : World) (hr : RdT w v ts) (hq : RdT w u ss) : Calls Try.prog 16 #[v, u] w (Ret (fun _ : Unit => .bool (decide (ts = ss))) (fun _ => []) w) := by
  refine enter (args := _) Try.func16 rfl Try.ntmps16 (by simp) ?_
  repeat' (first
    | refine hc_seq ?_ | refine hc_region ?_ | refine hv ?_ | refine hvg ?_ | refine hl_nil ?_ | refine at_then ?_
    | refine hcv (fun w hw => c_equalTold _ _ ts ss w (hr.now hw) (hq.now hw)) ?_
    | refine hb (fun _ => ?_) | refine ha (fun _ => ?_) | refine hs ?_ | refine qv ?_ | refine qvg ?_ | refine hq_nil ?_ | refine hc_quiet mixed (by kernel_rfl) ?_
    | refine ccdt (Opd.pl rfl) (by first | assumption | omega) ?_ | refine ccdf (Opd.pl rfl) (by first | assumption | omega) ?_ | refine ccnt (Opd.pl rfl) (by first | assumption | omega) ?_ | refine ccnf (Opd.pl rfl) (by first | assumption | omega) ?_ | refine ccbt (Opd.pl rfl) (by first | rfl | assumption) ?_ | refine ccbf (Opd.pl rfl) (by first | rfl | assumption) ?_ | refine ccnbt (Opd.pl rfl) (by assumption) ?_ | refine ccnbf (Opd.pl rfl) (by assumption) ?_
    | refine ccd (fun hh => ?_) (fun hh => ?_) | refine ccn (fun hh => ?_) (fun hh => ?_) | refine ccnb (fun hh => ?_) (fun hh => ?_) | refine cc (fun hh => ?_) (fun hh => ?_)
    | refine hc_skip ?_ | refine hc_ret ?_ | refine hc_exit ?_ | refine hc_block ?_ | refine at_then_ret ?_ | refine at_block_ret ?_ | refine at_block_exit ?_ | refine at_block_other rfl ?_ | refine at_then_exit ?_ | refine at_block ?_)
  exact ret0
end E
end Go.Proofs.Ytbplkdibjjcomaa
