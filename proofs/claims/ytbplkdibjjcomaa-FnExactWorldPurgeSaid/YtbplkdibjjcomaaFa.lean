/- Contracts of the program's and the reference's functions on labels, nodes, edges. -/
import Derived.Test.YtbplkdibjjcomaaDt
namespace Go.Proofs.Ytbplkdibjjcomaa
namespace E
open Go Go.RowKit
set_option linter.unusedSimpArgs false
set_option linter.unusedVariables false
set_option maxHeartbeats 1000000
set_option maxRecDepth 10000
attribute [local irreducible] HC HL HQ HX HO At Y YV Opd Opds KnX Sl Ld Src GV RV Calls Code.wp eptr adr RdF ownF OneX

def lok (a : Int) : Bool := decide (0 ≤ a) && decide (a ≤ 7)

theorem c_s_LabelOk (a : Int) (w : World) : Calls Try.prog 29 #[.int .i64 a] w (Ret (fun _ : Unit => .bool (lok a)) (fun _ => []) w) := by
  refine enter (args := _) Try.func29 rfl Try.ntmps29 (by simp) ?_
  repeat' (first
    | refine hc_seq ?_ | refine hc_region ?_ | refine hv ?_ | refine hvg ?_ | refine hl_nil ?_ | refine at_then ?_
    | refine hb (fun _ => ?_) | refine ha (fun _ => ?_) | refine hs ?_ | refine qv ?_ | refine qvg ?_ | refine hq_nil ?_ | refine hc_quiet mixed (by kernel_rfl) ?_
    | refine ccdt (Opd.pl rfl) (by first | assumption | omega) ?_ | refine ccdf (Opd.pl rfl) (by first | assumption | omega) ?_ | refine ccnt (Opd.pl rfl) (by first | assumption | omega) ?_ | refine ccnf (Opd.pl rfl) (by first | assumption | omega) ?_ | refine ccbt (Opd.pl rfl) (by first | rfl | assumption) ?_ | refine ccbf (Opd.pl rfl) (by first | rfl | assumption) ?_ | refine ccnbt (Opd.pl rfl) (by assumption) ?_ | refine ccnbf (Opd.pl rfl) (by assumption) ?_
    | refine ccd (fun hh => ?_) (fun hh => ?_) | refine ccn (fun hh => ?_) (fun hh => ?_) | refine ccnb (fun hh => ?_) (fun hh => ?_) | refine cc (fun hh => ?_) (fun hh => ?_)
    | refine hc_skip ?_ | refine hc_ret ?_ | refine hc_exit ?_ | refine hc_block ?_ | refine at_then_ret ?_ | refine at_block_ret ?_ | refine at_block_exit ?_ | refine at_block_other rfl ?_ | refine at_then_exit ?_ | refine at_block ?_)
  exact ret0
theorem c_i_LabelOk (a : Int) (w : World) : Calls Try.prog 30 #[.int .i64 a] w (Ret (fun _ : Unit => .bool (lok a)) (fun _ => []) w) := by
  refine enter (args := _) Try.func30 rfl Try.ntmps30 (by simp) ?_
  repeat' (first
    | refine hc_seq ?_ | refine hc_region ?_ | refine hv ?_ | refine hvg ?_ | refine hl_nil ?_ | refine at_then ?_
    | refine hb (fun _ => ?_) | refine ha (fun _ => ?_) | refine hs ?_ | refine qv ?_ | refine qvg ?_ | refine hq_nil ?_ | refine hc_quiet mixed (by kernel_rfl) ?_
    | refine ccdt (Opd.pl rfl) (by first | assumption | omega) ?_ | refine ccdf (Opd.pl rfl) (by first | assumption | omega) ?_ | refine ccnt (Opd.pl rfl) (by first | assumption | omega) ?_ | refine ccnf (Opd.pl rfl) (by first | assumption | omega) ?_ | refine ccbt (Opd.pl rfl) (by first | rfl | assumption) ?_ | refine ccbf (Opd.pl rfl) (by first | rfl | assumption) ?_ | refine ccnbt (Opd.pl rfl) (by assumption) ?_ | refine ccnbf (Opd.pl rfl) (by assumption) ?_
    | refine ccd (fun hh => ?_) (fun hh => ?_) | refine ccn (fun hh => ?_) (fun hh => ?_) | refine ccnb (fun hh => ?_) (fun hh => ?_) | refine cc (fun hh => ?_) (fun hh => ?_)
    | refine hc_skip ?_ | refine hc_ret ?_ | refine hc_exit ?_ | refine hc_block ?_ | refine at_then_ret ?_ | refine at_block_ret ?_ | refine at_block_exit ?_ | refine at_block_other rfl ?_ | refine at_then_exit ?_ | refine at_block ?_)
  exact ret0

def nok (x : Nd) : Bool := lok x.l && (decide (0 ≤ x.n) && decide (x.n ≤ 40))
theorem c_s_NodeOk (l n : Int) (w : World) : Calls Try.prog 31 #[.agg #[.int .i64 l, .int .i64 n]] w (Ret (fun _ : Unit => .bool (nok ⟨l, n⟩)) (fun _ => []) w) := by
  refine enter (args := _) Try.func31 rfl Try.ntmps31 (by simp) ?_
  repeat' (first
    | refine hc_seq ?_ | refine hc_region ?_ | refine hv ?_ | refine hvg ?_ | refine hl_nil ?_ | refine at_then ?_
    | refine hcv (fun w _ => c_s_LabelOk _ w) ?_
    | refine hb (fun _ => ?_) | refine ha (fun _ => ?_) | refine hs ?_ | refine qv ?_ | refine qvg ?_ | refine hq_nil ?_ | refine hc_quiet mixed (by kernel_rfl) ?_
    | refine ccdt (Opd.pl rfl) (by first | assumption | omega) ?_ | refine ccdf (Opd.pl rfl) (by first | assumption | omega) ?_ | refine ccnt (Opd.pl rfl) (by first | assumption | omega) ?_ | refine ccnf (Opd.pl rfl) (by first | assumption | omega) ?_ | refine ccbt (Opd.pl rfl) (by first | rfl | assumption) ?_ | refine ccbf (Opd.pl rfl) (by first | rfl | assumption) ?_ | refine ccnbt (Opd.pl rfl) (by assumption) ?_ | refine ccnbf (Opd.pl rfl) (by assumption) ?_
    | refine ccd (fun hh => ?_) (fun hh => ?_) | refine ccn (fun hh => ?_) (fun hh => ?_) | refine ccnb (fun hh => ?_) (fun hh => ?_) | refine cc (fun hh => ?_) (fun hh => ?_)
    | refine hc_skip ?_ | refine hc_ret ?_ | refine hc_exit ?_ | refine hc_block ?_ | refine at_then_ret ?_ | refine at_block_ret ?_ | refine at_block_exit ?_ | refine at_block_other rfl ?_ | refine at_then_exit ?_ | refine at_block ?_)
  refine ret0 ?_
  simp [nok, Bool.and_assoc]
theorem c_i_NodeOk (l n : Int) (w : World) : Calls Try.prog 33 #[.agg #[.int .i64 l, .int .i64 n]] w (Ret (fun _ : Unit => .bool (nok ⟨l, n⟩)) (fun _ => []) w) := by
  refine enter (args := _) Try.func33 rfl Try.ntmps33 (by simp) ?_
  repeat' (first
    | refine hc_seq ?_ | refine hc_region ?_ | refine hv ?_ | refine hvg ?_ | refine hl_nil ?_ | refine at_then ?_
    | refine hcv (fun w _ => c_i_LabelOk _ w) ?_
    | refine hb (fun _ => ?_) | refine ha (fun _ => ?_) | refine hs ?_ | refine qv ?_ | refine qvg ?_ | refine hq_nil ?_ | refine hc_quiet mixed (by kernel_rfl) ?_
    | refine ccdt (Opd.pl rfl) (by first | assumption | omega) ?_ | refine ccdf (Opd.pl rfl) (by first | assumption | omega) ?_ | refine ccnt (Opd.pl rfl) (by first | assumption | omega) ?_ | refine ccnf (Opd.pl rfl) (by first | assumption | omega) ?_ | refine ccbt (Opd.pl rfl) (by first | rfl | assumption) ?_ | refine ccbf (Opd.pl rfl) (by first | rfl | assumption) ?_ | refine ccnbt (Opd.pl rfl) (by assumption) ?_ | refine ccnbf (Opd.pl rfl) (by assumption) ?_
    | refine ccd (fun hh => ?_) (fun hh => ?_) | refine ccn (fun hh => ?_) (fun hh => ?_) | refine ccnb (fun hh => ?_) (fun hh => ?_) | refine cc (fun hh => ?_) (fun hh => ?_)
    | refine hc_skip ?_ | refine hc_ret ?_ | refine hc_exit ?_ | refine hc_block ?_ | refine at_then_ret ?_ | refine at_block_ret ?_ | refine at_block_exit ?_ | refine at_block_other rfl ?_ | refine at_then_exit ?_ | refine at_block ?_)
  refine ret0 ?_
  simp [nok, Bool.and_assoc]

theorem c_s_l1Two (n : Nat) (hn : n ≤ 2) (w : World) : Calls Try.prog 66 #[.int .i64 (n : Int)] w (Ret (fun _ : Unit => .int .i64 ((2 ^ n : Nat) : Int)) (fun _ => []) w) := by
  refine enter (args := _) Try.func66 rfl Try.ntmps66 (by simp) ?_
  repeat' (first
    | refine hc_seq ?_ | refine hc_region ?_ | refine hv ?_ | refine hvg ?_ | refine hl_nil ?_ | refine at_then ?_
    | refine hb (fun _ => ?_) | refine ha (fun _ => ?_) | refine hs ?_ | refine qv ?_ | refine qvg ?_ | refine hq_nil ?_ | refine hc_quiet mixed (by kernel_rfl) ?_
    | refine ccdt (Opd.pl rfl) (by first | assumption | omega) ?_ | refine ccdf (Opd.pl rfl) (by first | assumption | omega) ?_ | refine ccnt (Opd.pl rfl) (by first | assumption | omega) ?_ | refine ccnf (Opd.pl rfl) (by first | assumption | omega) ?_ | refine ccbt (Opd.pl rfl) (by first | rfl | assumption) ?_ | refine ccbf (Opd.pl rfl) (by first | rfl | assumption) ?_ | refine ccnbt (Opd.pl rfl) (by assumption) ?_ | refine ccnbf (Opd.pl rfl) (by assumption) ?_
    | refine ccd (fun hh => ?_) (fun hh => ?_) | refine ccn (fun hh => ?_) (fun hh => ?_) | refine ccnb (fun hh => ?_) (fun hh => ?_) | refine cc (fun hh => ?_) (fun hh => ?_)
    | refine hc_skip ?_ | refine hc_ret ?_ | refine hc_exit ?_ | refine hc_block ?_ | refine at_then_ret ?_ | refine at_block_ret ?_ | refine at_block_exit ?_ | refine at_block_other rfl ?_ | refine at_then_exit ?_ | refine at_block ?_)
  refine hc_loop (α := Nat) (fun k => k ≤ n) (fun k => [(0, .pl (.int .i64 (n : Int))), (3, .pl (.int .i64 ((2 ^ k : Nat) : Int))), (4, .pl (.int .i64 (k : Int)))]) (fun _ => []) (fun k => n - k) 0 (Nat.zero_le _) (FSub.cons rfl (FSub.cons rfl (FSub.cons rfl FSub.nil))) (KSub.nil _) (fun k hk => ?_)
  have hb : (2 ^ k : Nat) ≤ 4 := by
    have : k = 0 ∨ k = 1 ∨ k = 2 := by omega
    rcases this with rfl | rfl | rfl <;> decide
  generalize hp : 2 ^ k = p at hb ⊢
  repeat' (first
    | refine hc_seq ?_ | refine hc_region ?_ | refine hv ?_ | refine hvg ?_ | refine hl_nil ?_ | refine at_then ?_
    | refine hb (fun _ => ?_) | refine ha (fun _ => ?_) | refine hs ?_ | refine qv ?_ | refine qvg ?_ | refine hq_nil ?_ | refine hc_quiet mixed (by kernel_rfl) ?_
    | refine ccdt (Opd.pl rfl) (by first | assumption | omega) ?_ | refine ccdf (Opd.pl rfl) (by first | assumption | omega) ?_ | refine ccnt (Opd.pl rfl) (by first | assumption | omega) ?_ | refine ccnf (Opd.pl rfl) (by first | assumption | omega) ?_ | refine ccbt (Opd.pl rfl) (by first | rfl | assumption) ?_ | refine ccbf (Opd.pl rfl) (by first | rfl | assumption) ?_ | refine ccnbt (Opd.pl rfl) (by assumption) ?_ | refine ccnbf (Opd.pl rfl) (by assumption) ?_
    | refine ccd (fun hh => ?_) (fun hh => ?_) | refine ccn (fun hh => ?_) (fun hh => ?_) | refine ccnb (fun hh => ?_) (fun hh => ?_) | refine cc (fun hh => ?_) (fun hh => ?_)
    | refine hc_skip ?_ | refine hc_ret ?_ | refine hc_exit ?_ | refine hc_block ?_ | refine at_then_ret ?_ | refine at_block_ret ?_ | refine at_block_exit ?_ | refine at_block_other rfl ?_ | refine at_then_exit ?_ | refine at_block ?_)
  · refine at_round (k + 1) (by omega) (by omega) (FSub.cons rfl (FSub.int rfl (by rw [Nat.pow_succ, hp]; omega) (FSub.int rfl (by omega) FSub.nil))) (KSub.nil _)
  · have : k = n := by omega
    subst this
    refine ret0 ?_
    rw [hp]

def has (a i : Int) : Bool := decide ((IntKind.i64.wrap (a.tdiv ((2 ^ i.toNat : Nat) : Int))).tmod 2 = 1)
theorem c_s_l1Has (a i : Int) (hi : 0 ≤ i ∧ i ≤ 2) (w : World) : Calls Try.prog 60 #[.int .i64 a, .int .i64 i] w (Ret (fun _ : Unit => .bool (has a i)) (fun _ => []) w) := by
  obtain ⟨n, rfl⟩ := Int.eq_ofNat_of_zero_le hi.1
  have hp : ((2 ^ n : Nat) : Int) ≠ 0 := by
    have : 0 < 2 ^ n := Nat.pow_pos (by decide)
    omega
  refine enter (args := _) Try.func60 rfl Try.ntmps60 (by simp) ?_
  repeat' (first
    | refine hc_seq ?_ | refine hc_region ?_ | refine hv ?_ | refine hvg ?_ | refine hl_nil ?_ | refine at_then ?_
    | refine hcv (fun w _ => c_s_l1Two n (by omega) w) ?_
    | refine hb (fun _ => ?_) | refine ha (fun _ => ?_) | refine hs ?_ | refine qv ?_ | refine qvg ?_ | refine hq_nil ?_ | refine hc_quiet mixed (by kernel_rfl) ?_
    | refine ccdt (Opd.pl rfl) (by first | assumption | omega) ?_ | refine ccdf (Opd.pl rfl) (by first | assumption | omega) ?_ | refine ccnt (Opd.pl rfl) (by first | assumption | omega) ?_ | refine ccnf (Opd.pl rfl) (by first | assumption | omega) ?_ | refine ccbt (Opd.pl rfl) (by first | rfl | assumption) ?_ | refine ccbf (Opd.pl rfl) (by first | rfl | assumption) ?_ | refine ccnbt (Opd.pl rfl) (by assumption) ?_ | refine ccnbf (Opd.pl rfl) (by assumption) ?_
    | refine ccd (fun hh => ?_) (fun hh => ?_) | refine ccn (fun hh => ?_) (fun hh => ?_) | refine ccnb (fun hh => ?_) (fun hh => ?_) | refine cc (fun hh => ?_) (fun hh => ?_)
    | refine hc_skip ?_ | refine hc_ret ?_ | refine hc_exit ?_ | refine hc_block ?_ | refine at_then_ret ?_ | refine at_block_ret ?_ | refine at_block_exit ?_ | refine at_block_other rfl ?_ | refine at_then_exit ?_ | refine at_block ?_)
  refine ret0 ?_
  unfold has
  rw [Int.toNat_natCast]

def bad (a b j : Int) : Bool := has a j && !has b j
def und (a b : Int) : Bool := !(bad a b 0 || bad a b 1 || bad a b 2)
theorem und_false {a b : Int} (k : Nat) (hk : k < 3) (h : bad a b k = true) : und a b = false := by
  have : k = 0 ∨ k = 1 ∨ k = 2 := by omega
  rcases this with rfl | rfl | rfl <;> simp_all [und]
theorem und_true {a b : Int} (h : ∀ j : Nat, j < 3 → bad a b j = false) : und a b = true := by
  have h0 := h 0 (by omega)
  have h1 := h 1 (by omega)
  have h2 := h 2 (by omega)
  simp_all [und]
theorem c_s_l1Under (a b : Int) (w : World) : Calls Try.prog 53 #[.int .i64 a, .int .i64 b] w (Ret (fun _ : Unit => .bool (und a b)) (fun _ => []) w) := by
  refine enter (args := _) Try.func53 rfl Try.ntmps53 (by simp) ?_
  repeat' (first
    | refine hc_seq ?_ | refine hc_region ?_ | refine hv ?_ | refine hvg ?_ | refine hl_nil ?_ | refine at_then ?_
    | refine hb (fun _ => ?_) | refine ha (fun _ => ?_) | refine hs ?_ | refine qv ?_ | refine qvg ?_ | refine hq_nil ?_ | refine hc_quiet mixed (by kernel_rfl) ?_
    | refine ccdt (Opd.pl rfl) (by first | assumption | omega) ?_ | refine ccdf (Opd.pl rfl) (by first | assumption | omega) ?_ | refine ccnt (Opd.pl rfl) (by first | assumption | omega) ?_ | refine ccnf (Opd.pl rfl) (by first | assumption | omega) ?_ | refine ccbt (Opd.pl rfl) (by first | rfl | assumption) ?_ | refine ccbf (Opd.pl rfl) (by first | rfl | assumption) ?_ | refine ccnbt (Opd.pl rfl) (by assumption) ?_ | refine ccnbf (Opd.pl rfl) (by assumption) ?_
    | refine ccd (fun hh => ?_) (fun hh => ?_) | refine ccn (fun hh => ?_) (fun hh => ?_) | refine ccnb (fun hh => ?_) (fun hh => ?_) | refine cc (fun hh => ?_) (fun hh => ?_)
    | refine hc_skip ?_ | refine hc_ret ?_ | refine hc_exit ?_ | refine hc_block ?_ | refine at_then_ret ?_ | refine at_block_ret ?_ | refine at_block_exit ?_ | refine at_block_other rfl ?_ | refine at_then_exit ?_ | refine at_block ?_)
  refine hc_loop (α := Nat) (fun k => k ≤ 3 ∧ ∀ j : Nat, j < k → bad a b j = false) (fun k => [(0, .pl (.int .i64 a)), (1, .pl (.int .i64 b)), (5, .pl (.int .i64 (k : Int)))]) (fun _ => []) (fun k => 3 - k) 0 ⟨by omega, fun j hj => absurd hj (by omega)⟩ (FSub.cons rfl (FSub.cons rfl (FSub.cons rfl FSub.nil))) (KSub.nil _) (fun k hk => ?_)
  obtain ⟨hk3, hall⟩ := hk
  repeat' (first
    | refine hc_seq ?_ | refine hc_region ?_ | refine hv ?_ | refine hvg ?_ | refine hl_nil ?_ | refine at_then ?_
    | (refine hcv (fun w _ => c_s_l1Has _ _ ?_ w) ?_; · omega) | (refine hcvg (fun _ w _ => c_s_l1Has _ _ ?_ w) ?_; · omega)
    | refine hb (fun _ => ?_) | refine ha (fun _ => ?_) | refine hs ?_ | refine qv ?_ | refine qvg ?_ | refine hq_nil ?_ | refine hc_quiet mixed (by kernel_rfl) ?_
    | refine ccdt (Opd.pl rfl) (by first | assumption | omega) ?_ | refine ccdf (Opd.pl rfl) (by first | assumption | omega) ?_ | refine ccnt (Opd.pl rfl) (by first | assumption | omega) ?_ | refine ccnf (Opd.pl rfl) (by first | assumption | omega) ?_ | refine ccbt (Opd.pl rfl) (by first | rfl | assumption) ?_ | refine ccbf (Opd.pl rfl) (by first | rfl | assumption) ?_ | refine ccnbt (Opd.pl rfl) (by assumption) ?_ | refine ccnbf (Opd.pl rfl) (by assumption) ?_
    | refine ccd (fun hh => ?_) (fun hh => ?_) | refine ccn (fun hh => ?_) (fun hh => ?_) | refine ccnb (fun hh => ?_) (fun hh => ?_) | refine cc (fun hh => ?_) (fun hh => ?_)
    | refine hc_skip ?_ | refine hc_ret ?_ | refine hc_exit ?_ | refine hc_block ?_ | refine at_then_ret ?_ | refine at_block_ret ?_ | refine at_block_exit ?_ | refine at_block_other rfl ?_ | refine at_then_exit ?_ | refine at_block ?_)
  · exact ret0 (by rw [und_false k (by omega) (by assumption)])
  · refine at_round (k + 1) ⟨by omega, fun j hj => ?_⟩ (by omega) (FSub.cons rfl (FSub.cons rfl (FSub.int rfl (by omega) FSub.nil))) (KSub.nil _)
    rcases Nat.lt_or_ge j k with h | h
    · exact hall j h
    · have : j = k := by omega
      subst this
      assumption
  · have : k = 3 := by omega
    subst this
    exact ret0 (by rw [und_true hall])
def lun (a b : Int) : Bool := lok a && lok b && und a b
theorem c_s_LabelUnder (a b : Int) (w : World) : Calls Try.prog 42 #[.int .i64 a, .int .i64 b] w (Ret (fun _ : Unit => .bool (lun a b)) (fun _ => []) w) := by
  refine enter (args := _) Try.func42 rfl Try.ntmps42 (by simp) ?_
  repeat' (first
    | refine hc_seq ?_ | refine hc_region ?_ | refine hv ?_ | refine hvg ?_ | refine hl_nil ?_ | refine at_then ?_
    | refine hcv (fun w _ => c_s_LabelOk _ w) ?_ | refine hcvg (fun _ w _ => c_s_LabelOk _ w) ?_ | refine hcvg (fun _ w _ => c_s_l1Under _ _ w) ?_
    | refine hb (fun _ => ?_) | refine ha (fun _ => ?_) | refine hs ?_ | refine qv ?_ | refine qvg ?_ | refine hq_nil ?_ | refine hc_quiet mixed (by kernel_rfl) ?_
    | refine ccdt (Opd.pl rfl) (by first | assumption | omega) ?_ | refine ccdf (Opd.pl rfl) (by first | assumption | omega) ?_ | refine ccnt (Opd.pl rfl) (by first | assumption | omega) ?_ | refine ccnf (Opd.pl rfl) (by first | assumption | omega) ?_ | refine ccbt (Opd.pl rfl) (by first | rfl | assumption) ?_ | refine ccbf (Opd.pl rfl) (by first | rfl | assumption) ?_ | refine ccnbt (Opd.pl rfl) (by assumption) ?_ | refine ccnbf (Opd.pl rfl) (by assumption) ?_
    | refine ccd (fun hh => ?_) (fun hh => ?_) | refine ccn (fun hh => ?_) (fun hh => ?_) | refine ccnb (fun hh => ?_) (fun hh => ?_) | refine cc (fun hh => ?_) (fun hh => ?_)
    | refine hc_skip ?_ | refine hc_ret ?_ | refine hc_exit ?_ | refine hc_block ?_ | refine at_then_ret ?_ | refine at_block_ret ?_ | refine at_block_exit ?_ | refine at_block_other rfl ?_ | refine at_then_exit ?_ | refine at_block ?_)
  exact ret0

/-- The letters of labels, as bits. -/
theorem bits_under (a b : Int) (ha : lok a = true) (hb : lok b = true) : ∃ v : Int, (∀ w, (Op.intBits .andNot .u8 (IntKind.u8.wrap a) (IntKind.u8.wrap b)).run Try.prog w = .ok (.int .u8 v) w) ∧ decide (v = 0) = und a b := by
  have ha' : a = 0 ∨ a = 1 ∨ a = 2 ∨ a = 3 ∨ a = 4 ∨ a = 5 ∨ a = 6 ∨ a = 7 := by simp [lok] at ha; omega
  have hb' : b = 0 ∨ b = 1 ∨ b = 2 ∨ b = 3 ∨ b = 4 ∨ b = 5 ∨ b = 6 ∨ b = 7 := by simp [lok] at hb; omega
  rcases ha' with rfl | rfl | rfl | rfl | rfl | rfl | rfl | rfl <;> rcases hb' with rfl | rfl | rfl | rfl | rfl | rfl | rfl | rfl <;> exact ⟨_, fun _ => rfl, by decide +kernel⟩
theorem c_i_under (a b : Int) (ha : lok a = true) (hb : lok b = true) (w : World) : Calls Try.prog 56 #[.int .u8 (IntKind.u8.wrap a), .int .u8 (IntKind.u8.wrap b)] w (Ret (fun _ : Unit => .bool (und a b)) (fun _ => []) w) := by
  obtain ⟨v, hbv, he⟩ := bits_under a b ha hb
  refine enter (args := _) Try.func56 rfl Try.ntmps56 (by simp) ?_
  repeat' (first
    | refine hc_seq ?_ | refine hc_region ?_ | refine hv ?_ | refine hvg ?_ | refine hl_nil ?_ | refine at_then ?_
    | refine hl_v rfl rfl (by decide) (y_bits (Or.inr (Or.inr (Or.inr rfl))) (Opd.pl rfl) (Opd.pl rfl) hbv) ?_
    | refine hb (fun _ => ?_) | refine ha (fun _ => ?_) | refine hs ?_ | refine qv ?_ | refine qvg ?_ | refine hq_nil ?_ | refine hc_quiet mixed (by kernel_rfl) ?_
    | refine ccdt (Opd.pl rfl) (by first | assumption | omega) ?_ | refine ccdf (Opd.pl rfl) (by first | assumption | omega) ?_ | refine ccnt (Opd.pl rfl) (by first | assumption | omega) ?_ | refine ccnf (Opd.pl rfl) (by first | assumption | omega) ?_ | refine ccbt (Opd.pl rfl) (by first | rfl | assumption) ?_ | refine ccbf (Opd.pl rfl) (by first | rfl | assumption) ?_ | refine ccnbt (Opd.pl rfl) (by assumption) ?_ | refine ccnbf (Opd.pl rfl) (by assumption) ?_
    | refine ccd (fun hh => ?_) (fun hh => ?_) | refine ccn (fun hh => ?_) (fun hh => ?_) | refine ccnb (fun hh => ?_) (fun hh => ?_) | refine cc (fun hh => ?_) (fun hh => ?_)
    | refine hc_skip ?_ | refine hc_ret ?_ | refine hc_exit ?_ | refine hc_block ?_ | refine at_then_ret ?_ | refine at_block_ret ?_ | refine at_block_exit ?_ | refine at_block_other rfl ?_ | refine at_then_exit ?_ | refine at_block ?_)
  refine ret0 ?_
  rw [he]
theorem c_i_LabelUnder (a b : Int) (w : World) : Calls Try.prog 45 #[.int .i64 a, .int .i64 b] w (Ret (fun _ : Unit => .bool (lun a b)) (fun _ => []) w) := by
  refine enter (args := _) Try.func45 rfl Try.ntmps45 (by simp) ?_
  repeat' (first
    | refine hc_seq ?_ | refine hc_region ?_ | refine hv ?_ | refine hvg ?_ | refine hl_nil ?_ | refine at_then ?_
    | refine hcv (fun w _ => c_i_LabelOk _ w) ?_ | refine hcvg (fun _ w _ => c_i_LabelOk _ w) ?_ | refine hcvg (fun hc w _ => c_i_under a b (Bool.and_eq_true_iff.1 hc).1 (Bool.and_eq_true_iff.1 hc).2 w) ?_
    | refine hb (fun _ => ?_) | refine ha (fun _ => ?_) | refine hs ?_ | refine qv ?_ | refine qvg ?_ | refine hq_nil ?_ | refine hc_quiet mixed (by kernel_rfl) ?_
    | refine ccdt (Opd.pl rfl) (by first | assumption | omega) ?_ | refine ccdf (Opd.pl rfl) (by first | assumption | omega) ?_ | refine ccnt (Opd.pl rfl) (by first | assumption | omega) ?_ | refine ccnf (Opd.pl rfl) (by first | assumption | omega) ?_ | refine ccbt (Opd.pl rfl) (by first | rfl | assumption) ?_ | refine ccbf (Opd.pl rfl) (by first | rfl | assumption) ?_ | refine ccnbt (Opd.pl rfl) (by assumption) ?_ | refine ccnbf (Opd.pl rfl) (by assumption) ?_
    | refine ccd (fun hh => ?_) (fun hh => ?_) | refine ccn (fun hh => ?_) (fun hh => ?_) | refine ccnb (fun hh => ?_) (fun hh => ?_) | refine cc (fun hh => ?_) (fun hh => ?_)
    | refine hc_skip ?_ | refine hc_ret ?_ | refine hc_exit ?_ | refine hc_block ?_ | refine at_then_ret ?_ | refine at_block_ret ?_ | refine at_block_exit ?_ | refine at_block_other rfl ?_ | refine at_then_exit ?_ | refine at_block ?_)
  exact ret0
end E
end Go.Proofs.Ytbplkdibjjcomaa
