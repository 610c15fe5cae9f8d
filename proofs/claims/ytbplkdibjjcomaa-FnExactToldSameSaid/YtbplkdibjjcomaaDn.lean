/- Data with slices within: what is told. -/
import Derived.Test.YtbplkdibjjcomaaDt
import Derived.Test.YtbplkdibjjcomaaEngN
namespace Go.Proofs.Ytbplkdibjjcomaa
namespace E
open Go Go.RowKit
set_option linter.unusedSimpArgs false
set_option linter.unusedVariables false
set_option maxHeartbeats 1000000
set_option maxRecDepth 10000
attribute [local irreducible] HC HL HQ HX HO At Y YV Opd Opds KnX Sl Ld Src GV RV Calls Code.wp eptr adr RdF ownF OneX
theorem sz_yes {P : Program} {f : FuncId} {v : Value} {k : Int} {n : Nat} {w : World} (h : Calls P f #[v, .int .i64 k] w (Ret (fun _ : Unit => .int .i64 (if k - n < 0 then -1 else k - n)) (fun _ => []) w)) (hk : (n : Int) ≤ k) : Calls P f #[v, .int .i64 k] w (Ret (fun _ : Unit => .int .i64 (k - n)) (fun _ => []) w) := by
  rwa [if_neg (by omega)] at h
theorem sz_no {P : Program} {f : FuncId} {v : Value} {k : Int} {n : Nat} {w : World} (h : Calls P f #[v, .int .i64 k] w (Ret (fun _ : Unit => .int .i64 (if k - n < 0 then -1 else k - n)) (fun _ => []) w)) (hk : ¬ (n : Int) ≤ k) : Calls P f #[v, .int .i64 k] w (Ret (fun _ : Unit => .int .i64 (-1)) (fun _ => []) w) := by
  rwa [if_pos (by omega)] at h
theorem sz_yes' {P : Program} {f : FuncId} {args : Array Value} {k : Int} {n : Nat} {w : World} (h : Calls P f args w (Ret (fun _ : Unit => .int .i64 (if k - n < 0 then -1 else k - n)) (fun _ => []) w)) (hk : (n : Int) ≤ k) : Calls P f args w (Ret (fun _ : Unit => .int .i64 (k - n)) (fun _ => []) w) := by
  rwa [if_neg (by omega)] at h
theorem sz_no' {P : Program} {f : FuncId} {args : Array Value} {k : Int} {n : Nat} {w : World} (h : Calls P f args w (Ret (fun _ : Unit => .int .i64 (if k - n < 0 then -1 else k - n)) (fun _ => []) w)) (hk : ¬ (n : Int) ≤ k) : Calls P f args w (Ret (fun _ : Unit => .int .i64 (-1)) (fun _ => []) w) := by
  rwa [if_pos (by omega)] at h
structure Sv where
  a : Option Addr
  n : Nat
  c : Nat
structure TdR where
  c : Int
  s : Sv
  r : Int
instance : Flat TdR := ⟨3, fun x => [.int .i64 x.c, .slice x.s.a x.s.n x.s.c, .int .i64 x.r], fun _ => rfl, fun _ u h => by simp only [List.mem_cons, List.mem_nil_iff, or_false] at h; (repeat' (rcases h with rfl | h)) <;> first | rfl | (subst h; rfl)⟩
/-- An own row's value is a slice. -/
theorem ownF_sv {α : Type} [Flat α] {w0 w : World} {K : List Ck} {v : Value} {e : TypeId} {xs : List α} (hm : ownF e v xs ∈ K) (hK : KOk w0 K w) : ∃ s : Sv, v = .slice s.a s.n s.c := by
  have h := hK.holds _ hm
  unfold ownF at h
  rcases h.2 with ⟨rfl, _⟩ | ⟨g, cap, cur, rfl, _⟩
  · exact ⟨⟨none, 0, 0⟩, rfl⟩
  · exact ⟨⟨_, _, _⟩, rfl⟩
theorem calls_sv {P : Program} {α : Type} [Flat α] {f : FuncId} {args : Array Value} {w : World} {e : TypeId} {xs : List α} (h : Calls P f args w (Ret (fun v : Value => v) (fun v => [ownF e v xs]) w)) :
    Calls P f args w (Ret (fun s : Sv => .slice s.a s.n s.c) (fun s => [ownF e (.slice s.a s.n s.c) xs]) w) := h.mono fun en w' ⟨v, he, hk⟩ => by
  obtain ⟨s, rfl⟩ := ownF_sv (List.mem_singleton.2 rfl) hk
  exact ⟨s, he, hk⟩
theorem c_szTold (c r : Int) (A : Option Addr) (n m : Nat) (xs : List Int) (k : Int) (hk0 : 0 ≤ k ∧ k ≤ 1048576) (w : World) (hr : RdF w (.slice A n m) xs) : Calls Try.prog 34 #[.agg #[.int .i64 c, .slice A n m, .int .i64 r], .int .i64 k] w (Ret (fun _ : Unit => .int .i64 (if k - xs.length < 0 then -1 else k - xs.length)) (fun _ => []) w) := by
  by_cases hl : (xs.length : Int) ≤ k
  · rw [if_neg (by omega)]
    refine enter (args := _) Try.func34 rfl Try.ntmps34 (by simp) ?_
    repeat' (first
    | refine hc_seq ?_ | refine hc_region ?_ | refine hv ?_ | refine hvg ?_ | refine hl_nil ?_ | refine at_then ?_
    | refine hcv1 (fun w _ a => sz_yes (c_szIntS _ xs k hk0 w a) hl) ?_
    | refine hb (fun _ => ?_) | refine ha (fun _ => ?_) | refine hs ?_ | refine qv ?_ | refine qvg ?_ | refine hq_nil ?_ | refine hc_quiet mixed (by kernel_rfl) ?_
    | refine ccdt (Opd.pl rfl) (by first | assumption | omega) ?_ | refine ccdf (Opd.pl rfl) (by first | assumption | omega) ?_ | refine ccnt (Opd.pl rfl) (by first | assumption | omega) ?_ | refine ccnf (Opd.pl rfl) (by first | assumption | omega) ?_ | refine ccbt (Opd.pl rfl) (by first | rfl | assumption) ?_ | refine ccbf (Opd.pl rfl) (by first | rfl | assumption) ?_ | refine ccnbt (Opd.pl rfl) (by assumption) ?_ | refine ccnbf (Opd.pl rfl) (by assumption) ?_
    | refine ccd (fun hh => ?_) (fun hh => ?_) | refine ccn (fun hh => ?_) (fun hh => ?_) | refine ccnb (fun hh => ?_) (fun hh => ?_) | refine cc (fun hh => ?_) (fun hh => ?_)
    | refine hc_skip ?_ | refine hc_ret ?_ | refine hc_exit ?_ | refine hc_block ?_ | refine at_then_ret ?_ | refine at_block_ret ?_ | refine at_block_exit ?_ | refine at_block_other rfl ?_ | refine at_then_exit ?_ | refine at_block ?_)
    exact ret0
  · rw [if_pos (by omega)]
    refine enter (args := _) Try.func34 rfl Try.ntmps34 (by simp) ?_
    repeat' (first
    | refine hc_seq ?_ | refine hc_region ?_ | refine hv ?_ | refine hvg ?_ | refine hl_nil ?_ | refine at_then ?_
    | refine hcv1 (fun w _ a => sz_no (c_szIntS _ xs k hk0 w a) hl) ?_
    | refine hb (fun _ => ?_) | refine ha (fun _ => ?_) | refine hs ?_ | refine qv ?_ | refine qvg ?_ | refine hq_nil ?_ | refine hc_quiet mixed (by kernel_rfl) ?_
    | refine ccdt (Opd.pl rfl) (by first | assumption | omega) ?_ | refine ccdf (Opd.pl rfl) (by first | assumption | omega) ?_ | refine ccnt (Opd.pl rfl) (by first | assumption | omega) ?_ | refine ccnf (Opd.pl rfl) (by first | assumption | omega) ?_ | refine ccbt (Opd.pl rfl) (by first | rfl | assumption) ?_ | refine ccbf (Opd.pl rfl) (by first | rfl | assumption) ?_ | refine ccnbt (Opd.pl rfl) (by assumption) ?_ | refine ccnbf (Opd.pl rfl) (by assumption) ?_
    | refine ccd (fun hh => ?_) (fun hh => ?_) | refine ccn (fun hh => ?_) (fun hh => ?_) | refine ccnb (fun hh => ?_) (fun hh => ?_) | refine cc (fun hh => ?_) (fun hh => ?_)
    | refine hc_skip ?_ | refine hc_ret ?_ | refine hc_exit ?_ | refine hc_block ?_ | refine at_then_ret ?_ | refine at_block_ret ?_ | refine at_block_exit ?_ | refine at_block_other rfl ?_ | refine at_then_exit ?_ | refine at_block ?_)
    exact ret0
structure Td where
  c : Int
  a : List Int
  r : Int
  deriving DecidableEq
/-- The slice v reads as what is told, ts, each answer in a row of its own. -/
def RdT (w : World) (v : Value) (ts : List Td) : Prop := ∃ xs : List TdR, RdF w v xs ∧ xs.length = ts.length ∧ ∀ (i : Nat) (x : TdR) (t : Td), xs[i]? = some x → ts[i]? = some t → x.c = t.c ∧ x.r = t.r ∧ RdF w (.slice x.s.a x.s.n x.s.c) t.a
def psum (ts : List Td) (k : Nat) : Nat := ((ts.take k).map (·.a.length)).sum
def tot (ts : List Td) : Nat := ts.length + psum ts ts.length
theorem psum_step {ts : List Td} {k : Nat} {t : Td} (h : ts[k]? = some t) : psum ts (k + 1) = psum ts k + t.a.length := by
  simp [psum, List.take_add_one, h]
theorem psum_le (ts : List Td) (k : Nat) : psum ts k ≤ psum ts ts.length := by
  unfold psum
  rw [List.take_length]
  conv => rhs; rw [← List.take_append_drop k ts, List.map_append, List.sum_append]
  omega
theorem c_szToldS (v : Value) (ts : List Td) (k : Int) (hk0 : 0 ≤ k ∧ k ≤ 1048576) (w : World) (hr : RdT w v ts) : Calls Try.prog 13 #[v, .int .i64 k] w (Ret (fun _ : Unit => .int .i64 (if k - tot ts < 0 then -1 else k - tot ts)) (fun _ => []) w) := by
  obtain ⟨xs, hx0, hl, hin⟩ := hr
  have m1 := hx0.le
  simp only [maxLen] at m1
  have ht : tot ts = xs.length + psum ts ts.length := by rw [tot, hl]
  refine enter (args := _) Try.func13 rfl Try.ntmps13 (by simp) ?_
  repeat' (first
    | refine hc_seq ?_ | refine hc_region ?_ | refine hv ?_ | refine hvg ?_ | refine hl_nil ?_ | refine at_then ?_
    | refine hb (fun _ => ?_) | refine ha (fun _ => ?_) | refine hs ?_ | refine qv ?_ | refine qvg ?_ | refine hq_nil ?_ | refine hc_quiet mixed (by kernel_rfl) ?_
    | refine ccdt (Opd.pl rfl) (by first | assumption | omega) ?_ | refine ccdf (Opd.pl rfl) (by first | assumption | omega) ?_ | refine ccnt (Opd.pl rfl) (by first | assumption | omega) ?_ | refine ccnf (Opd.pl rfl) (by first | assumption | omega) ?_ | refine ccbt (Opd.pl rfl) (by first | rfl | assumption) ?_ | refine ccbf (Opd.pl rfl) (by first | rfl | assumption) ?_ | refine ccnbt (Opd.pl rfl) (by assumption) ?_ | refine ccnbf (Opd.pl rfl) (by assumption) ?_
    | refine ccd (fun hh => ?_) (fun hh => ?_) | refine ccn (fun hh => ?_) (fun hh => ?_) | refine ccnb (fun hh => ?_) (fun hh => ?_) | refine cc (fun hh => ?_) (fun hh => ?_)
    | refine hc_skip ?_ | refine hc_ret ?_ | refine hc_exit ?_ | refine hc_block ?_ | refine at_then_ret ?_ | refine at_block_ret ?_ | refine at_block_exit ?_ | refine at_block_other rfl ?_ | refine at_then_exit ?_ | refine at_block ?_)
  · refine ret0 ?_
    rw [if_pos (by omega)]
  refine hc_loop (α := Nat) (fun i => i ≤ xs.length ∧ 0 ≤ k - xs.length - psum ts i) (fun i => [(0, .pl v), (1, .pl (.int .i64 (k - xs.length - psum ts i))), (5, .pl (.int .i64 (i : Int)))]) (fun _ => []) (fun i => xs.length - i) 0 ⟨Nat.zero_le _, by simp [psum]; omega⟩ (FSub.cons rfl (FSub.int rfl (by simp [psum]) (FSub.int rfl (by omega) FSub.nil))) (KSub.nil _) (fun i hi => ?_)
  obtain ⟨hi1, hi2⟩ := hi
  rcases Nat.lt_or_ge i xs.length with hlt | hge
  · obtain ⟨x, hx⟩ : ∃ x, xs[i]? = some x := ⟨_, List.getElem?_eq_getElem hlt⟩
    obtain ⟨t, hy⟩ : ∃ t, ts[i]? = some t := ⟨_, List.getElem?_eq_getElem (hl ▸ hlt)⟩
    obtain ⟨_, _, hin0⟩ := hin i x t hx hy
    have hps := psum_step hy
    have hpl := psum_le ts (i + 1)
    have hkk : 0 ≤ k - xs.length - psum ts i ∧ k - xs.length - psum ts i ≤ 1048576 := by omega
    by_cases hd : (t.a.length : Int) ≤ k - xs.length - psum ts i
    · repeat' (first
    | refine hc_seq ?_ | refine hc_region ?_ | refine hv ?_ | refine hvg ?_ | refine hl_nil ?_ | refine at_then ?_
    | refine hcv1 (fun w _ a => sz_yes' (c_szTold _ _ _ _ _ t.a _ hkk w a) hd) ?_
    | refine hb (fun _ => ?_) | refine ha (fun _ => ?_) | refine hs ?_ | refine qv ?_ | refine qvg ?_ | refine hq_nil ?_ | refine hc_quiet mixed (by kernel_rfl) ?_
    | refine ccdt (Opd.pl rfl) (by first | assumption | omega) ?_ | refine ccdf (Opd.pl rfl) (by first | assumption | omega) ?_ | refine ccnt (Opd.pl rfl) (by first | assumption | omega) ?_ | refine ccnf (Opd.pl rfl) (by first | assumption | omega) ?_ | refine ccbt (Opd.pl rfl) (by first | rfl | assumption) ?_ | refine ccbf (Opd.pl rfl) (by first | rfl | assumption) ?_ | refine ccnbt (Opd.pl rfl) (by assumption) ?_ | refine ccnbf (Opd.pl rfl) (by assumption) ?_
    | refine ccd (fun hh => ?_) (fun hh => ?_) | refine ccn (fun hh => ?_) (fun hh => ?_) | refine ccnb (fun hh => ?_) (fun hh => ?_) | refine cc (fun hh => ?_) (fun hh => ?_)
    | refine hc_skip ?_ | refine hc_ret ?_ | refine hc_exit ?_ | refine hc_block ?_ | refine at_then_ret ?_ | refine at_block_ret ?_ | refine at_block_exit ?_ | refine at_block_other rfl ?_ | refine at_then_exit ?_ | refine at_block ?_)
      exact at_round (i + 1) ⟨by omega, by omega⟩ (by omega) (FSub.cons rfl (FSub.int rfl (by omega) (FSub.int rfl (by omega) FSub.nil))) (KSub.nil _)
    · repeat' (first
    | refine hc_seq ?_ | refine hc_region ?_ | refine hv ?_ | refine hvg ?_ | refine hl_nil ?_ | refine at_then ?_
    | refine hcv1 (fun w _ a => sz_no' (c_szTold _ _ _ _ _ t.a _ hkk w a) hd) ?_
    | refine hb (fun _ => ?_) | refine ha (fun _ => ?_) | refine hs ?_ | refine qv ?_ | refine qvg ?_ | refine hq_nil ?_ | refine hc_quiet mixed (by kernel_rfl) ?_
    | refine ccdt (Opd.pl rfl) (by first | assumption | omega) ?_ | refine ccdf (Opd.pl rfl) (by first | assumption | omega) ?_ | refine ccnt (Opd.pl rfl) (by first | assumption | omega) ?_ | refine ccnf (Opd.pl rfl) (by first | assumption | omega) ?_ | refine ccbt (Opd.pl rfl) (by first | rfl | assumption) ?_ | refine ccbf (Opd.pl rfl) (by first | rfl | assumption) ?_ | refine ccnbt (Opd.pl rfl) (by assumption) ?_ | refine ccnbf (Opd.pl rfl) (by assumption) ?_
    | refine ccd (fun hh => ?_) (fun hh => ?_) | refine ccn (fun hh => ?_) (fun hh => ?_) | refine ccnb (fun hh => ?_) (fun hh => ?_) | refine cc (fun hh => ?_) (fun hh => ?_)
    | refine hc_skip ?_ | refine hc_ret ?_ | refine hc_exit ?_ | refine hc_block ?_ | refine at_then_ret ?_ | refine at_block_ret ?_ | refine at_block_exit ?_ | refine at_block_other rfl ?_ | refine at_then_exit ?_ | refine at_block ?_)
      refine ret0 ?_
      rw [if_pos (by omega)]
  · repeat' (first
    | refine hc_seq ?_ | refine hc_region ?_ | refine hv ?_ | refine hvg ?_ | refine hl_nil ?_ | refine at_then ?_
    | refine hb (fun _ => ?_) | refine ha (fun _ => ?_) | refine hs ?_ | refine qv ?_ | refine qvg ?_ | refine hq_nil ?_ | refine hc_quiet mixed (by kernel_rfl) ?_
    | refine ccdt (Opd.pl rfl) (by first | assumption | omega) ?_ | refine ccdf (Opd.pl rfl) (by first | assumption | omega) ?_ | refine ccnt (Opd.pl rfl) (by first | assumption | omega) ?_ | refine ccnf (Opd.pl rfl) (by first | assumption | omega) ?_ | refine ccbt (Opd.pl rfl) (by first | rfl | assumption) ?_ | refine ccbf (Opd.pl rfl) (by first | rfl | assumption) ?_ | refine ccnbt (Opd.pl rfl) (by assumption) ?_ | refine ccnbf (Opd.pl rfl) (by assumption) ?_
    | refine ccd (fun hh => ?_) (fun hh => ?_) | refine ccn (fun hh => ?_) (fun hh => ?_) | refine ccnb (fun hh => ?_) (fun hh => ?_) | refine cc (fun hh => ?_) (fun hh => ?_)
    | refine hc_skip ?_ | refine hc_ret ?_ | refine hc_exit ?_ | refine hc_block ?_ | refine at_then_ret ?_ | refine at_block_ret ?_ | refine at_block_exit ?_ | refine at_block_other rfl ?_ | refine at_then_exit ?_ | refine at_block ?_)
    have hie : i = ts.length := by omega
    refine ret0 ?_
    rw [if_neg (by rw [ht, ← hie]; omega), ht, ← hie]
    congr 1
    omega
theorem c_toTold (c r : Int) (A : Option Addr) (n m : Nat) (xs : List Int) (hn : xs.length ≤ 1048576) (w : World) (hr : RdF w (.slice A n m) xs) : Calls Try.prog 36 #[.agg #[.int .i64 c, .slice A n m, .int .i64 r]] w (Ret (fun s : Sv => .agg #[.int .i64 c, .slice s.a s.n s.c, .int .i64 r]) (fun s => [ownF 3 (.slice s.a s.n s.c) xs]) w) := by
  refine enter (args := _) Try.func36 rfl Try.ntmps36 (by simp) ?_
  repeat' (first
    | refine hc_seq ?_ | refine hc_region ?_ | refine hv ?_ | refine hvg ?_ | refine hl_nil ?_ | refine at_then ?_
    | refine hcm1 (fun w _ a => calls_sv (c_toIntS _ xs hn w a)) (fun s => ?_)
    | refine hb (fun _ => ?_) | refine ha (fun _ => ?_) | refine hs ?_ | refine qv ?_ | refine qvg ?_ | refine hq_nil ?_ | refine hc_quiet mixed (by kernel_rfl) ?_
    | refine ccdt (Opd.pl rfl) (by first | assumption | omega) ?_ | refine ccdf (Opd.pl rfl) (by first | assumption | omega) ?_ | refine ccnt (Opd.pl rfl) (by first | assumption | omega) ?_ | refine ccnf (Opd.pl rfl) (by first | assumption | omega) ?_ | refine ccbt (Opd.pl rfl) (by first | rfl | assumption) ?_ | refine ccbf (Opd.pl rfl) (by first | rfl | assumption) ?_ | refine ccnbt (Opd.pl rfl) (by assumption) ?_ | refine ccnbf (Opd.pl rfl) (by assumption) ?_
    | refine ccd (fun hh => ?_) (fun hh => ?_) | refine ccn (fun hh => ?_) (fun hh => ?_) | refine ccnb (fun hh => ?_) (fun hh => ?_) | refine cc (fun hh => ?_) (fun hh => ?_)
    | refine hc_skip ?_ | refine hc_ret ?_ | refine hc_exit ?_ | refine hc_block ?_ | refine at_then_ret ?_ | refine at_block_ret ?_ | refine at_block_exit ?_ | refine at_block_other rfl ?_ | refine at_then_exit ?_ | refine at_block ?_)
  exact ret1 s
def inn (xs : List TdR) (ts : List Td) : List Ck := (xs.zip ts).map fun p => ownF 3 (.slice p.1.s.a p.1.s.n p.1.s.c) p.2.a
def Match (xs : List TdR) (ts : List Td) : Prop := xs.length = ts.length ∧ ∀ (i : Nat) (x : TdR) (t : Td), xs[i]? = some x → ts[i]? = some t → x.c = t.c ∧ x.r = t.r
theorem Match.snoc {xs : List TdR} {ts : List Td} {k : Nat} {t : Td} (h : Match xs (ts.take k)) (ht : ts[k]? = some t) (s : Sv) : Match (xs ++ [⟨t.c, s, t.r⟩]) (ts.take (k + 1)) := by
  have hk : k < ts.length := (List.getElem?_eq_some_iff.1 ht).1
  have hl : xs.length = k := by rw [h.1, List.length_take]; omega
  refine ⟨by simp [hl]; omega, fun i x u hx hu => ?_⟩
  rcases Nat.lt_or_ge i k with hi | hi
  · rw [List.getElem?_append_left (by omega)] at hx
    rw [List.getElem?_take_of_lt (by omega)] at hu
    exact h.2 i x u hx (by rw [List.getElem?_take_of_lt hi]; exact hu)
  · have hi2 : i < (ts.take (k + 1)).length := (List.getElem?_eq_some_iff.1 hu).1
    have : i = k := by rw [List.length_take] at hi2; omega
    subst this
    rw [List.getElem?_append_right (by omega), hl, Nat.sub_self] at hx
    rw [List.getElem?_take_of_lt (by omega), ht] at hu
    simp only [List.getElem?_cons_zero, Option.some.injEq] at hx hu
    subst hx; subst hu
    exact ⟨rfl, rfl⟩
theorem inn_snoc {xs : List TdR} {ts : List Td} {k : Nat} {t : Td} (h : Match xs (ts.take k)) (ht : ts[k]? = some t) (s : Sv) : inn (xs ++ [⟨t.c, s, t.r⟩]) (ts.take (k + 1)) = inn xs (ts.take k) ++ [ownF 3 (.slice s.a s.n s.c) t.a] := by
  unfold inn
  rw [List.take_add_one, ht, List.zip_append h.1]
  simp
theorem Pick.mid : ∀ (s t : List Ck) (k : Ck), Pick (s ++ k :: t) k (s ++ t)
  | [], t, k => .here k t
  | x :: s, t, k => .there x k _ _ (Pick.mid s t k)
theorem KSub.ofPerm : ∀ (K' K : List Ck), K.Perm K' → KSub K K'
  | [], K, _ => .nil K
  | k :: K2, K, h => by
    obtain ⟨s, t, rfl⟩ := List.append_of_mem (h.mem_iff.2 List.mem_cons_self)
    have h2 : (s ++ t).Perm K2 := List.Perm.cons_inv ((List.perm_middle).symm.trans h)
    exact .pick (Pick.mid s t k) (KSub.ofPerm K2 _ h2)
theorem c_toToldS (v : Value) (ts : List Td) (hn : ts.length ≤ 1048576) (hna : ∀ t ∈ ts, t.a.length ≤ 1048576) (w : World) (hr : RdT w v ts) :
    Calls Try.prog 15 #[v] w (Ret (fun z : Value × { xs : List TdR // Match xs ts } => z.1) (fun z => ownF 65 z.1 z.2.1 :: inn z.2.1 ts) w) := by
  obtain ⟨xs, hx0, hl, hin⟩ := hr
  have m1 := hx0.le
  simp only [maxLen] at m1
  refine enter (args := _) Try.func15 rfl Try.ntmps15 (by simp) ?_
  repeat' (first
    | refine hc_seq ?_ | refine hc_region ?_ | refine hv ?_ | refine hvg ?_ | refine hl_nil ?_ | refine at_then ?_
    | (refine hm (α := TdR) ⟨0, ⟨none, 0, 0⟩, 0⟩ (fun v1 h1 => ?_) ?_; rotate_left; · exact ⟨by omega, by simp only [maxLen]; omega⟩)
    | refine hb (fun _ => ?_) | refine ha (fun _ => ?_) | refine hs ?_ | refine qv ?_ | refine qvg ?_ | refine hq_nil ?_ | refine hc_quiet mixed (by kernel_rfl) ?_
    | refine ccdt (Opd.pl rfl) (by first | assumption | omega) ?_ | refine ccdf (Opd.pl rfl) (by first | assumption | omega) ?_ | refine ccnt (Opd.pl rfl) (by first | assumption | omega) ?_ | refine ccnf (Opd.pl rfl) (by first | assumption | omega) ?_ | refine ccbt (Opd.pl rfl) (by first | rfl | assumption) ?_ | refine ccbf (Opd.pl rfl) (by first | rfl | assumption) ?_ | refine ccnbt (Opd.pl rfl) (by assumption) ?_ | refine ccnbf (Opd.pl rfl) (by assumption) ?_
    | refine ccd (fun hh => ?_) (fun hh => ?_) | refine ccn (fun hh => ?_) (fun hh => ?_) | refine ccnb (fun hh => ?_) (fun hh => ?_) | refine cc (fun hh => ?_) (fun hh => ?_)
    | refine hc_skip ?_ | refine hc_ret ?_ | refine hc_exit ?_ | refine hc_block ?_ | refine at_then_ret ?_ | refine at_block_ret ?_ | refine at_block_exit ?_ | refine at_block_other rfl ?_ | refine at_then_exit ?_ | refine at_block ?_)
  refine hc_loop (α := Nat × List TdR) (fun p => p.1 ≤ ts.length ∧ Match p.2 (ts.take p.1)) (fun p => [(0, .pl v), (3, .pl v1), (4, .pl (.int .i64 (p.1 : Int)))]) (fun p => ownF 65 v1 (p.2 ++ List.replicate (ts.length - p.1) ⟨0, ⟨none, 0, 0⟩, 0⟩) :: inn p.2 (ts.take p.1)) (fun p => ts.length - p.1) (0, []) ⟨Nat.zero_le _, rfl, fun i x t h => by simp at h⟩ (FSub.cons rfl (FSub.cons rfl (FSub.cons rfl FSub.nil))) (KSub.ownF (Pick.here _ _) (by simp [hl]) (KSub.nil _)) (fun p hp => ?_)
  obtain ⟨k, rows⟩ := p
  obtain ⟨hk, hM⟩ := hp
  simp only at hk hM
  dsimp only
  have hrl : rows.length = k := by rw [hM.1, List.length_take]; omega
  rcases Nat.lt_or_ge k ts.length with hlt | hge
  · obtain ⟨x, hx⟩ : ∃ x, xs[k]? = some x := ⟨_, List.getElem?_eq_getElem (hl ▸ hlt)⟩
    obtain ⟨t, hy⟩ : ∃ t, ts[k]? = some t := ⟨_, List.getElem?_eq_getElem hlt⟩
    obtain ⟨hc1, hc2, hin0⟩ := hin k x t hx hy
    have hta := hna t (List.mem_of_getElem? hy)
    have hRl : (rows ++ List.replicate (ts.length - k) (⟨0, ⟨none, 0, 0⟩, 0⟩ : TdR)).length = ts.length := by simp; omega
    have hg : (rows ++ List.replicate (ts.length - k) (⟨0, ⟨none, 0, 0⟩, 0⟩ : TdR))[k]? = some ⟨0, ⟨none, 0, 0⟩, 0⟩ := by
      rw [List.getElem?_append_right (by omega), hrl, Nat.sub_self, List.getElem?_replicate, if_pos (by omega)]
    repeat' (first
    | refine hc_seq ?_ | refine hc_region ?_ | refine hv ?_ | refine hvg ?_ | refine hl_nil ?_ | refine at_then ?_
    | refine hcm1 (fun w _ a => c_toTold _ _ _ _ _ t.a hta w a) (fun s => ?_) | refine ht (α := TdR) ⟨x.c, s, x.r⟩ ?_ hg
    | refine hb (fun _ => ?_) | refine ha (fun _ => ?_) | refine hs ?_ | refine qv ?_ | refine qvg ?_ | refine hq_nil ?_ | refine hc_quiet mixed (by kernel_rfl) ?_
    | refine ccdt (Opd.pl rfl) (by first | assumption | omega) ?_ | refine ccdf (Opd.pl rfl) (by first | assumption | omega) ?_ | refine ccnt (Opd.pl rfl) (by first | assumption | omega) ?_ | refine ccnf (Opd.pl rfl) (by first | assumption | omega) ?_ | refine ccbt (Opd.pl rfl) (by first | rfl | assumption) ?_ | refine ccbf (Opd.pl rfl) (by first | rfl | assumption) ?_ | refine ccnbt (Opd.pl rfl) (by assumption) ?_ | refine ccnbf (Opd.pl rfl) (by assumption) ?_
    | refine ccd (fun hh => ?_) (fun hh => ?_) | refine ccn (fun hh => ?_) (fun hh => ?_) | refine ccnb (fun hh => ?_) (fun hh => ?_) | refine cc (fun hh => ?_) (fun hh => ?_)
    | refine hc_skip ?_ | refine hc_ret ?_ | refine hc_exit ?_ | refine hc_block ?_ | refine at_then_ret ?_ | refine at_block_ret ?_ | refine at_block_exit ?_ | refine at_block_other rfl ?_ | refine at_then_exit ?_ | refine at_block ?_)
    have hset : (rows ++ List.replicate (ts.length - k) (⟨0, ⟨none, 0, 0⟩, 0⟩ : TdR)).set k ⟨x.c, s, x.r⟩ = (rows ++ [⟨t.c, s, t.r⟩]) ++ List.replicate (ts.length - (k + 1)) ⟨0, ⟨none, 0, 0⟩, 0⟩ := by
      rw [List.set_append_right _ _ (by omega), hrl, Nat.sub_self, show ts.length - k = (ts.length - (k + 1)) + 1 from by omega, List.replicate_succ, List.set_cons_zero, hc1, hc2, List.append_assoc]
      rfl
    refine at_round (k + 1, rows ++ [⟨t.c, s, t.r⟩]) ⟨by omega, hM.snoc hy s⟩ (by simp only; omega) (FSub.cons rfl (FSub.cons rfl (FSub.int rfl (by omega) FSub.nil))) (KSub.ownF (Pick.here _ _) hset ?_)
    simp only [inn_snoc hM hy s]
    exact KSub.ofPerm _ _ (List.perm_append_comm (l₁ := [_]))
  · repeat' (first
    | refine hc_seq ?_ | refine hc_region ?_ | refine hv ?_ | refine hvg ?_ | refine hl_nil ?_ | refine at_then ?_
    | refine hb (fun _ => ?_) | refine ha (fun _ => ?_) | refine hs ?_ | refine qv ?_ | refine qvg ?_ | refine hq_nil ?_ | refine hc_quiet mixed (by kernel_rfl) ?_
    | refine ccdt (Opd.pl rfl) (by first | assumption | omega) ?_ | refine ccdf (Opd.pl rfl) (by first | assumption | omega) ?_ | refine ccnt (Opd.pl rfl) (by first | assumption | omega) ?_ | refine ccnf (Opd.pl rfl) (by first | assumption | omega) ?_ | refine ccbt (Opd.pl rfl) (by first | rfl | assumption) ?_ | refine ccbf (Opd.pl rfl) (by first | rfl | assumption) ?_ | refine ccnbt (Opd.pl rfl) (by assumption) ?_ | refine ccnbf (Opd.pl rfl) (by assumption) ?_
    | refine ccd (fun hh => ?_) (fun hh => ?_) | refine ccn (fun hh => ?_) (fun hh => ?_) | refine ccnb (fun hh => ?_) (fun hh => ?_) | refine cc (fun hh => ?_) (fun hh => ?_)
    | refine hc_skip ?_ | refine hc_ret ?_ | refine hc_exit ?_ | refine hc_block ?_ | refine at_then_ret ?_ | refine at_block_ret ?_ | refine at_block_exit ?_ | refine at_block_other rfl ?_ | refine at_then_exit ?_ | refine at_block ?_)
    have hke : k = ts.length := by omega
    subst hke
    rw [List.take_length] at hM ⊢
    exact ret1 (v1, ⟨rows, hM⟩) rfl (KSub.ownF (Pick.here _ _) (by simp) (KSub.refl _))
theorem c_eqTold (c r : Int) (A : Option Addr) (n m : Nat) (xs : List Int) (c' r' : Int) (A' : Option Addr) (n' m' : Nat) (ys : List Int) (w : World) (hr : RdF w (.slice A n m) xs) (hq : RdF w (.slice A' n' m') ys) :
    Calls Try.prog 40 #[.agg #[.int .i64 c, .slice A n m, .int .i64 r], .agg #[.int .i64 c', .slice A' n' m', .int .i64 r']] w (Ret (fun _ : Unit => .bool (decide (c = c' ∧ xs = ys ∧ r = r'))) (fun _ => []) w) := by
  refine enter (args := _) Try.func40 rfl Try.ntmps40 (by simp) ?_
  repeat' (first
    | refine hc_seq ?_ | refine hc_region ?_ | refine hv ?_ | refine hvg ?_ | refine hl_nil ?_ | refine at_then ?_
    | refine hcv2 (fun w _ a b => c_eqIntS _ _ xs ys w a b) ?_
    | refine hb (fun _ => ?_) | refine ha (fun _ => ?_) | refine hs ?_ | refine qv ?_ | refine qvg ?_ | refine hq_nil ?_ | refine hc_quiet mixed (by kernel_rfl) ?_
    | refine ccdt (Opd.pl rfl) (by first | assumption | omega) ?_ | refine ccdf (Opd.pl rfl) (by first | assumption | omega) ?_ | refine ccnt (Opd.pl rfl) (by first | assumption | omega) ?_ | refine ccnf (Opd.pl rfl) (by first | assumption | omega) ?_ | refine ccbt (Opd.pl rfl) (by first | rfl | assumption) ?_ | refine ccbf (Opd.pl rfl) (by first | rfl | assumption) ?_ | refine ccnbt (Opd.pl rfl) (by assumption) ?_ | refine ccnbf (Opd.pl rfl) (by assumption) ?_
    | refine ccd (fun hh => ?_) (fun hh => ?_) | refine ccn (fun hh => ?_) (fun hh => ?_) | refine ccnb (fun hh => ?_) (fun hh => ?_) | refine cc (fun hh => ?_) (fun hh => ?_)
    | refine hc_skip ?_ | refine hc_ret ?_ | refine hc_exit ?_ | refine hc_block ?_ | refine at_then_ret ?_ | refine at_block_ret ?_ | refine at_block_exit ?_ | refine at_block_other rfl ?_ | refine at_then_exit ?_ | refine at_block ?_)
  all_goals (refine ret0 ?_; simp_all)
theorem c_eqToldS (v u : Value) (ts ss : List Td) (w : World) (hr : RdT w v ts) (hq : RdT w u ss) : Calls Try.prog 17 #[v, u] w (Ret (fun _ : Unit => .bool (decide (ts = ss))) (fun _ => []) w) := by
  obtain ⟨xs, hx0, hl, hin⟩ := hr
  obtain ⟨ys, hy0, hl', hin'⟩ := hq
  have m1 := hx0.le
  have m2 := hy0.le
  simp only [maxLen] at m1 m2
  refine enter (args := _) Try.func17 rfl Try.ntmps17 (by simp) ?_
  repeat' (first
    | refine hc_seq ?_ | refine hc_region ?_ | refine hv ?_ | refine hvg ?_ | refine hl_nil ?_ | refine at_then ?_
    | refine hb (fun _ => ?_) | refine ha (fun _ => ?_) | refine hs ?_ | refine qv ?_ | refine qvg ?_ | refine hq_nil ?_ | refine hc_quiet mixed (by kernel_rfl) ?_
    | refine ccdt (Opd.pl rfl) (by first | assumption | omega) ?_ | refine ccdf (Opd.pl rfl) (by first | assumption | omega) ?_ | refine ccnt (Opd.pl rfl) (by first | assumption | omega) ?_ | refine ccnf (Opd.pl rfl) (by first | assumption | omega) ?_ | refine ccbt (Opd.pl rfl) (by first | rfl | assumption) ?_ | refine ccbf (Opd.pl rfl) (by first | rfl | assumption) ?_ | refine ccnbt (Opd.pl rfl) (by assumption) ?_ | refine ccnbf (Opd.pl rfl) (by assumption) ?_
    | refine ccd (fun hh => ?_) (fun hh => ?_) | refine ccn (fun hh => ?_) (fun hh => ?_) | refine ccnb (fun hh => ?_) (fun hh => ?_) | refine cc (fun hh => ?_) (fun hh => ?_)
    | refine hc_skip ?_ | refine hc_ret ?_ | refine hc_exit ?_ | refine hc_block ?_ | refine at_then_ret ?_ | refine at_block_ret ?_ | refine at_block_exit ?_ | refine at_block_other rfl ?_ | refine at_then_exit ?_ | refine at_block ?_)
  · refine ret0 ?_
    simp only [Value.bool.injEq]
    symm
    apply decide_eq_false
    rintro rfl
    omega
  have hlen : xs.length = ys.length := by omega
  refine hc_loop (α := Nat) (fun k => k ≤ xs.length ∧ ts.take k = ss.take k) (fun k => [(0, .pl v), (1, .pl u), (5, .pl (.int .i64 (k : Int)))]) (fun k => []) (fun k => xs.length - k) 0 ⟨Nat.zero_le _, rfl⟩ (FSub.cons rfl (FSub.cons rfl (FSub.cons rfl FSub.nil))) (KSub.nil _) (fun k hk0 => ?_)
  obtain ⟨hk1, hk2⟩ := hk0
  rcases Nat.lt_or_ge k xs.length with hlt | hge
  · obtain ⟨x, hx⟩ : ∃ x, xs[k]? = some x := ⟨_, List.getElem?_eq_getElem hlt⟩
    obtain ⟨y, hy⟩ : ∃ y, ys[k]? = some y := ⟨_, List.getElem?_eq_getElem (hlen ▸ hlt)⟩
    obtain ⟨t, ht⟩ : ∃ t, ts[k]? = some t := ⟨_, List.getElem?_eq_getElem (hl ▸ hlt)⟩
    obtain ⟨s, hs'⟩ : ∃ s, ss[k]? = some s := ⟨_, List.getElem?_eq_getElem (hl' ▸ hlen ▸ hlt)⟩
    have hlt' : k < ys.length := hlen ▸ hlt
    obtain ⟨g1, g2, g3⟩ := hin k x t hx ht
    obtain ⟨g4, g5, g6⟩ := hin' k y s hy hs'
    repeat' (first
    | refine hc_seq ?_ | refine hc_region ?_ | refine hv ?_ | refine hvg ?_ | refine hl_nil ?_ | refine at_then ?_
    | refine hcv2 (fun w _ a b => c_eqTold _ _ _ _ _ t.a _ _ _ _ _ s.a w a b) ?_ | refine qcv2 (fun w _ a b => c_eqTold _ _ _ _ _ t.a _ _ _ _ _ s.a w a b) ?_
    | refine hb (fun _ => ?_) | refine ha (fun _ => ?_) | refine hs ?_ | refine qv ?_ | refine qvg ?_ | refine hq_nil ?_ | refine hc_quiet mixed (by kernel_rfl) ?_
    | refine ccdt (Opd.pl rfl) (by first | assumption | omega) ?_ | refine ccdf (Opd.pl rfl) (by first | assumption | omega) ?_ | refine ccnt (Opd.pl rfl) (by first | assumption | omega) ?_ | refine ccnf (Opd.pl rfl) (by first | assumption | omega) ?_ | refine ccbt (Opd.pl rfl) (by first | rfl | assumption) ?_ | refine ccbf (Opd.pl rfl) (by first | rfl | assumption) ?_ | refine ccnbt (Opd.pl rfl) (by assumption) ?_ | refine ccnbf (Opd.pl rfl) (by assumption) ?_
    | refine ccd (fun hh => ?_) (fun hh => ?_) | refine ccn (fun hh => ?_) (fun hh => ?_) | refine ccnb (fun hh => ?_) (fun hh => ?_) | refine cc (fun hh => ?_) (fun hh => ?_)
    | refine hc_skip ?_ | refine hc_ret ?_ | refine hc_exit ?_ | refine hc_block ?_ | refine at_then_ret ?_ | refine at_block_ret ?_ | refine at_block_exit ?_ | refine at_block_other rfl ?_ | refine at_then_exit ?_ | refine at_block ?_)
    · refine ret0 ?_
      simp only [Value.bool.injEq]
      symm
      apply decide_eq_false
      rintro rfl
      rw [ht] at hs'
      injection hs' with hs'
      subst hs'
      exact hh ⟨by rw [g1, g4], rfl, by rw [g2, g5]⟩
    · refine at_round (k + 1) ⟨by omega, ?_⟩ (by omega) (FSub.cons rfl (FSub.cons rfl (FSub.int rfl (by omega) FSub.nil))) (KSub.nil _)
      have hxy : t = s := by
        obtain ⟨q1, q2, q3⟩ := hh
        cases t; cases s
        simp_all
      rw [List.take_add_one, List.take_add_one, hk2, ht, hs', hxy]
  · repeat' (first
    | refine hc_seq ?_ | refine hc_region ?_ | refine hv ?_ | refine hvg ?_ | refine hl_nil ?_ | refine at_then ?_
    | refine hb (fun _ => ?_) | refine ha (fun _ => ?_) | refine hs ?_ | refine qv ?_ | refine qvg ?_ | refine hq_nil ?_ | refine hc_quiet mixed (by kernel_rfl) ?_
    | refine ccdt (Opd.pl rfl) (by first | assumption | omega) ?_ | refine ccdf (Opd.pl rfl) (by first | assumption | omega) ?_ | refine ccnt (Opd.pl rfl) (by first | assumption | omega) ?_ | refine ccnf (Opd.pl rfl) (by first | assumption | omega) ?_ | refine ccbt (Opd.pl rfl) (by first | rfl | assumption) ?_ | refine ccbf (Opd.pl rfl) (by first | rfl | assumption) ?_ | refine ccnbt (Opd.pl rfl) (by assumption) ?_ | refine ccnbf (Opd.pl rfl) (by assumption) ?_
    | refine ccd (fun hh => ?_) (fun hh => ?_) | refine ccn (fun hh => ?_) (fun hh => ?_) | refine ccnb (fun hh => ?_) (fun hh => ?_) | refine cc (fun hh => ?_) (fun hh => ?_)
    | refine hc_skip ?_ | refine hc_ret ?_ | refine hc_exit ?_ | refine hc_block ?_ | refine at_then_ret ?_ | refine at_block_ret ?_ | refine at_block_exit ?_ | refine at_block_other rfl ?_ | refine at_then_exit ?_ | refine at_block ?_)
    refine ret0 ?_
    simp only [Value.bool.injEq]
    symm
    apply decide_eq_true
    rw [List.take_of_length_le (by omega), List.take_of_length_le (by omega)] at hk2
    exact hk2
theorem RdT.now {w0 w : World} {K : List Ck} {v : Value} {ts : List Td} (h : RdT w0 v ts) (hw : KOk w0 K w) : RdT w v ts := by
  obtain ⟨xs, h1, h2, h3⟩ := h
  exact ⟨xs, h1.now hw, h2, fun i x t hx ht => ⟨(h3 i x t hx ht).1, (h3 i x t hx ht).2.1, (h3 i x t hx ht).2.2.now hw⟩⟩
theorem RdT.of_own {w0 w : World} {K : List Ck} {v : Value} {rows : List TdR} {ts : List Td} {e : TypeId} (hM : Match rows ts) (hm : ownF e v rows ∈ K) (hs : ∀ k ∈ inn rows ts, k ∈ K) (hw : KOk w0 K w) : RdT w v ts := by
  refine ⟨rows, RdF.of_own hm hw, hM.1, fun i x t hx ht => ⟨(hM.2 i x t hx ht).1, (hM.2 i x t hx ht).2, RdF.of_own (e := 3) (hs _ ?_) hw⟩⟩
  unfold inn
  refine List.mem_map.2 ⟨(x, t), ?_, rfl⟩
  exact List.mem_of_getElem? (i := i) (by simp [List.getElem?_zip_eq_some, hx, ht])
end E
end Go.Proofs.Ytbplkdibjjcomaa
