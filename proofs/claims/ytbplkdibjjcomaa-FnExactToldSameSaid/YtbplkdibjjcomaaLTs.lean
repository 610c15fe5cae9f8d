/- ToldSame: the law is walked. -/
import Derived.Test.YtbplkdibjjcomaaDo
namespace Go.Proofs.Ytbplkdibjjcomaa
namespace E
open Go Go.RowKit
set_option linter.unusedSimpArgs false
set_option linter.unusedVariables false
set_option maxHeartbeats 1000000
set_option maxRecDepth 10000
attribute [local irreducible] HC HL HQ HX HO At Y YV Opd Opds KnX Sl Ld Src GV RV Calls Code.wp eptr adr RdF ownF OneX
inductive Sub : List Ck → List Ck → Prop where
  | here (L K : List Ck) : Sub L (L ++ K)
  | there (L M K : List Ck) (h : Sub L K) : Sub L (M ++ K)
theorem Sub.mem {L K : List Ck} (h : Sub L K) : ∀ k ∈ L, k ∈ K := by
  induction h with
  | here K => exact fun k hk => List.mem_append_left _ hk
  | there M K _ ih => exact fun k hk => List.mem_append_right _ (ih k hk)
def RdInT (w0 : World) (K : List Ck) (v : Value) (ts : List Td) : Prop := ∀ w, KOk w0 K w → RdT w v ts
theorem RdInT.own {w0 : World} {K : List Ck} {v : Value} {ts : List Td} {z : { xs : List TdR // Match xs ts }} {e : TypeId} (hs : Sub (ownF e v z.1 :: inn z.1 ts) K) : RdInT w0 K v ts := fun w hw =>
  RdT.of_own z.2 (hs.mem _ List.mem_cons_self) (fun k hk => hs.mem _ (List.mem_cons_of_mem _ hk)) hw
section
variable {P : Program} {N : Nat} {w0 : World} {K K' Kp : List Ck} {F : List (Nat × En)} {c : Bool} {Q : Exit → Act → World → Prop} {ops : Array Oper} {rest : List Oper} {d : Nat} {dd : Option Tmp} {ty : TypeId} {pos : String} {af : Array Edge} {gd : Option (Nat × Bool)} {v : Value}
theorem hcvT {f : FuncId} [T : FnOk P f] {xs : Array Operand} {tys : Array TypeId} {vs : List Value} {v1 v2 : Value} {ts ss : List Td} (hcall : ∀ w, KOk w0 K w → RdT w v1 ts → RdT w v2 ss → Calls P f vs.toArray w (Ret (fun _ : Unit => v) (fun _ => []) w)) (hr : HL P N w0 ops Q rest ((d, .pl v) :: F) K) (hN : d < N := by decide) (hx : Opds N F true xs.toList vs := by repeat (first | exact Opds.nil | refine Opds.cons (by first | exact Opd.pl rfl | exact Opd.gd rfl (fun h => h) | exact Opd.gd rfl (by simp; done)) ?_))
    (m1 : RdInT w0 K v1 ts := by exact RdInT.own (by repeat (first | exact Sub.here _ _ | apply Sub.there))) (m2 : RdInT w0 K v2 ss := by exact RdInT.own (by repeat (first | exact Sub.here _ _ | apply Sub.there))) :
    HL P N w0 ops Q (⟨some d, .call { callee := .value (.func f), args := xs, argTypes := tys }, ty, pos, af, none⟩ :: rest) F K := hcv (fun w hw => hcall w hw (m1 w hw) (m2 w hw)) hr hN hx
theorem hcvT1 {f : FuncId} [T : FnOk P f] {xs : Array Operand} {tys : Array TypeId} {vs : List Value} {v1 : Value} {ts : List Td} (hcall : ∀ w, KOk w0 K w → RdT w v1 ts → Calls P f vs.toArray w (Ret (fun _ : Unit => v) (fun _ => []) w)) (hr : HL P N w0 ops Q rest ((d, .pl v) :: F) K) (hN : d < N := by decide) (hx : Opds N F true xs.toList vs := by repeat (first | exact Opds.nil | refine Opds.cons (by first | exact Opd.pl rfl | exact Opd.gd rfl (fun h => h) | exact Opd.gd rfl (by simp; done)) ?_)) (m1 : RdInT w0 K v1 ts := by first | exact (fun _ hw => RdT.now (by assumption) hw) | exact RdInT.own (by repeat (first | exact Sub.here _ _ | apply Sub.there))) :
    HL P N w0 ops Q (⟨some d, .call { callee := .value (.func f), args := xs, argTypes := tys }, ty, pos, af, none⟩ :: rest) F K := hcv (fun w hw => hcall w hw (m1 w hw)) hr hN hx
theorem hcmT1 {β : Type} {val : β → Value} {Kr : β → List Ck} {f : FuncId} [T : FnOk P f] {xs : Array Operand} {tys : Array TypeId} {vs : List Value} {v1 : Value} {ts : List Td} (hcall : ∀ w, KOk w0 K w → RdT w v1 ts → Calls P f vs.toArray w (Ret val Kr w)) (hr : ∀ z, HL P N w0 ops Q rest ((d, .pl (val z)) :: F) (Kr z ++ K)) (hN : d < N := by decide) (hx : Opds N F true xs.toList vs := by repeat (first | exact Opds.nil | refine Opds.cons (by first | exact Opd.pl rfl | exact Opd.gd rfl (fun h => h) | exact Opd.gd rfl (by simp; done)) ?_)) (m1 : RdInT w0 K v1 ts := by first | exact (fun _ hw => RdT.now (by assumption) hw) | exact RdInT.own (by repeat (first | exact Sub.here _ _ | apply Sub.there))) :
    HL P N w0 ops Q (⟨some d, .call { callee := .value (.func f), args := xs, argTypes := tys }, ty, pos, af, none⟩ :: rest) F K := hc' (fun w hw => hcall w hw (m1 w hw)) hr hN hx
end
theorem same_ToldS (v u : Value) (ts : List Td) (w : World) (hr : RdT w v ts) (hq : RdT w u ts) : Calls Try.prog 17 #[v, u] w (Ret (fun _ : Unit => .bool true) (fun _ => []) w) := by
  have h := c_eqToldS v u ts ts w hr hq
  rwa [decide_eq_true rfl] at h
theorem tot_bounds {ts : List Td} {k : Nat} (h : tot ts ≤ k) : ts.length ≤ k ∧ ∀ t ∈ ts, t.a.length ≤ k := by
  refine ⟨by unfold tot at h; omega, fun t ht => ?_⟩
  obtain ⟨i, hi⟩ := List.getElem?_of_mem ht
  have h1 := psum_step hi
  have h2 := psum_le ts (i + 1)
  unfold tot at h
  omega
theorem c_law_ToldSame (v u : Value) (ts ss : List Td) (w : World) (hr : RdT w v ts) (hq : RdT w u ss) : Calls Try.prog 5 #[v, u] w (Ret (fun _ : Unit => .bool true) (fun _ => []) w) := by
  by_cases h1 : (tot ts : Int) ≤ 1048576
  · have hk2 : 0 ≤ (1048576 : Int) - tot ts ∧ (1048576 : Int) - tot ts ≤ 1048576 := by omega
    by_cases h2 : (tot ss : Int) ≤ 1048576 - tot ts
    · obtain ⟨b1, b2⟩ := tot_bounds (ts := ts) (k := 1048576) (by omega)
      obtain ⟨b3, b4⟩ := tot_bounds (ts := ss) (k := 1048576) (by omega)
      refine enter (args := _) Try.func5 rfl Try.ntmps5 (by simp) ?_
      repeat' (first
    | refine hc_seq ?_ | refine hc_region ?_ | refine hv ?_ | refine hvg ?_ | refine hl_nil ?_ | refine at_then ?_
    | (refine hcvT1 (fun w _ a => sz_yes (c_szToldS _ _ _ ?_ w a) ?_) ?_; (· omega); (· omega)) | (refine hcmT1 (fun w _ a => c_toToldS _ _ ?_ ?_ w a) (fun z => ?_); (· assumption); (· assumption)) | refine hcvT (fun w _ a b => c_s_ToldSame _ _ _ _ w a b) ?_ | refine hcvT (fun w _ a b => c_i_ToldSame _ _ _ _ w a b) ?_ | refine hcvT (fun w _ a b => same_ToldS _ _ _ w a b) ?_
    | refine hb (fun _ => ?_) | refine ha (fun _ => ?_) | refine hs ?_ | refine qv ?_ | refine qvg ?_ | refine hq_nil ?_ | refine hc_quiet mixed (by kernel_rfl) ?_
    | refine ccdt (Opd.pl rfl) (by first | assumption | omega) ?_ | refine ccdf (Opd.pl rfl) (by first | assumption | omega) ?_ | refine ccnt (Opd.pl rfl) (by first | assumption | omega) ?_ | refine ccnf (Opd.pl rfl) (by first | assumption | omega) ?_ | refine ccbt (Opd.pl rfl) (by first | rfl | assumption) ?_ | refine ccbf (Opd.pl rfl) (by first | rfl | assumption) ?_ | refine ccnbt (Opd.pl rfl) (by assumption) ?_ | refine ccnbf (Opd.pl rfl) (by assumption) ?_
    | refine ccd (fun hh => ?_) (fun hh => ?_) | refine ccn (fun hh => ?_) (fun hh => ?_) | refine ccnb (fun hh => ?_) (fun hh => ?_) | refine cc (fun hh => ?_) (fun hh => ?_)
    | refine hc_skip ?_ | refine hc_ret ?_ | refine hc_exit ?_ | refine hc_block ?_ | refine at_then_ret ?_ | refine at_block_ret ?_ | refine at_block_exit ?_ | refine at_block_other rfl ?_ | refine at_then_exit ?_ | refine at_block ?_)
      all_goals first
        | exact ret0
        | (simp at hh; done)
        | (rename_i hh; simp at hh; done)
        | trace_state
    · refine enter (args := _) Try.func5 rfl Try.ntmps5 (by simp) ?_
      repeat' (first
    | refine hc_seq ?_ | refine hc_region ?_ | refine hv ?_ | refine hvg ?_ | refine hl_nil ?_ | refine at_then ?_
    | (refine hcvT1 (fun w _ a => sz_yes (c_szToldS _ _ _ ?_ w a) ?_) ?_; (· omega); (· omega)) | (refine hcvT1 (fun w _ a => sz_no (c_szToldS _ _ _ ?_ w a) ?_) ?_; (· omega); (· omega))
    | refine hb (fun _ => ?_) | refine ha (fun _ => ?_) | refine hs ?_ | refine qv ?_ | refine qvg ?_ | refine hq_nil ?_ | refine hc_quiet mixed (by kernel_rfl) ?_
    | refine ccdt (Opd.pl rfl) (by first | assumption | omega) ?_ | refine ccdf (Opd.pl rfl) (by first | assumption | omega) ?_ | refine ccnt (Opd.pl rfl) (by first | assumption | omega) ?_ | refine ccnf (Opd.pl rfl) (by first | assumption | omega) ?_ | refine ccbt (Opd.pl rfl) (by first | rfl | assumption) ?_ | refine ccbf (Opd.pl rfl) (by first | rfl | assumption) ?_ | refine ccnbt (Opd.pl rfl) (by assumption) ?_ | refine ccnbf (Opd.pl rfl) (by assumption) ?_
    | refine ccd (fun hh => ?_) (fun hh => ?_) | refine ccn (fun hh => ?_) (fun hh => ?_) | refine ccnb (fun hh => ?_) (fun hh => ?_) | refine cc (fun hh => ?_) (fun hh => ?_)
    | refine hc_skip ?_ | refine hc_ret ?_ | refine hc_exit ?_ | refine hc_block ?_ | refine at_then_ret ?_ | refine at_block_ret ?_ | refine at_block_exit ?_ | refine at_block_other rfl ?_ | refine at_then_exit ?_ | refine at_block ?_)
      exact ret0
  · refine enter (args := _) Try.func5 rfl Try.ntmps5 (by simp) ?_
    repeat' (first
    | refine hc_seq ?_ | refine hc_region ?_ | refine hv ?_ | refine hvg ?_ | refine hl_nil ?_ | refine at_then ?_
    | (refine hcvT1 (fun w _ a => sz_no (c_szToldS _ _ _ ?_ w a) ?_) ?_; (· omega); (· omega))
    | refine hb (fun _ => ?_) | refine ha (fun _ => ?_) | refine hs ?_ | refine qv ?_ | refine qvg ?_ | refine hq_nil ?_ | refine hc_quiet mixed (by kernel_rfl) ?_
    | refine ccdt (Opd.pl rfl) (by first | assumption | omega) ?_ | refine ccdf (Opd.pl rfl) (by first | assumption | omega) ?_ | refine ccnt (Opd.pl rfl) (by first | assumption | omega) ?_ | refine ccnf (Opd.pl rfl) (by first | assumption | omega) ?_ | refine ccbt (Opd.pl rfl) (by first | rfl | assumption) ?_ | refine ccbf (Opd.pl rfl) (by first | rfl | assumption) ?_ | refine ccnbt (Opd.pl rfl) (by assumption) ?_ | refine ccnbf (Opd.pl rfl) (by assumption) ?_
    | refine ccd (fun hh => ?_) (fun hh => ?_) | refine ccn (fun hh => ?_) (fun hh => ?_) | refine ccnb (fun hh => ?_) (fun hh => ?_) | refine cc (fun hh => ?_) (fun hh => ?_)
    | refine hc_skip ?_ | refine hc_ret ?_ | refine hc_exit ?_ | refine hc_block ?_ | refine at_then_ret ?_ | refine at_block_ret ?_ | refine at_block_exit ?_ | refine at_block_other rfl ?_ | refine at_then_exit ?_ | refine at_block ?_)
    exact ret0
end E
end Go.Proofs.Ytbplkdibjjcomaa
