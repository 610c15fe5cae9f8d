/- Graphs, pools and worlds: same or not, both sides (written by a program of this repo: gen_same.py). -/
import Derived.Test.YtmopokamcbcggaaDc
namespace Go.Proofs.Ytmopokamcbcggaa
namespace E
open Go Go.RowKit
set_option linter.unusedSimpArgs false
set_option linter.unusedVariables false
set_option maxHeartbeats 1000000
set_option maxRecDepth 10000
attribute [local irreducible] HC HL HQ HX HO At Y YV Opd Opds KnX Sl Ld Src GV RV Calls Code.wp eptr adr RdF ownF OneX HG LdC
theorem int_eq {x y : Int} (h : x = y) : x = y := h
theorem pe_eq {x y : Pe} (h : [x.c, x.z, x.q] = [y.c, y.z, y.q]) : x = y := by
  obtain ⟨_, _, _⟩ := x
  obtain ⟨_, _, _⟩ := y
  simp_all
theorem nd_eq {x y : Nd} (h : [x.l, x.n] = [y.l, y.n]) : x = y := by
  obtain ⟨_, _⟩ := x
  obtain ⟨_, _⟩ := y
  simp_all
theorem eg_eq {x y : Eg} (h : [x.l, x.a.l, x.a.n, x.b.l, x.b.n] = [y.l, y.a.l, y.a.n, y.b.l, y.b.n]) : x = y := by
  obtain ⟨_, ⟨_, _⟩, ⟨_, _⟩⟩ := x
  obtain ⟨_, ⟨_, _⟩, ⟨_, _⟩⟩ := y
  simp_all
theorem pg_eq {x y : Pg} (h : [x.l, x.a] = [y.l, y.a]) : x = y := by
  obtain ⟨_, _⟩ := x
  obtain ⟨_, _⟩ := y
  simp_all
theorem c_equalPe {v u : Value} {xs ys : List Pe} (w : World) (hr : RdF w v xs := by exact rdA) (hq : RdF w u ys := by exact rdA) : Calls Try.prog 56 #[v, u] w (Ret (fun _ : Unit => .bool (decide (xs = ys))) (fun _ => []) w) := by
  have m1 := hr.le
  have m2 := hq.le
  simp only [maxLen] at m1 m2
  refine enter (args := _) Try.func56 rfl Try.ntmps56 (by simp) ?_
  repeat' (first | refine E.st ?_ | refine E.q ?_ | refine E.qs ?_ | refine E.q2 ?_ | refine E.tr ?_ | refine E.ap (fun _ _ => ?_) | refine E.b1 (fun _ _ => ?_) | refine E.b0 (fun _ _ => ?_) | refine E.bsn (fun _ _ => ?_) | refine E.mk (fun _ _ => ?_) | refine E.bx (fun _ => ?_) | refine E.al (fun _ => ?_) | refine E.sb ?_ | refine E.dq ?_ | refine E.ct ?_ | refine E.cf ?_ | refine E.cs (fun hh => ?_) (fun hh => ?_) | refine E.at_block_other rfl ?_)
  · exact rb (eq_len (by omega))
  refine lq (fun k : Nat => k ≤ xs.length ∧ xs.take k = ys.take k) (fun k => [(13, .pl (.int .i64 (k : Int)))]) (fun k => []) (fun k => xs.length - k) 0 ⟨Nat.zero_le _, rfl⟩ (fun k hk0 => ?_)
  obtain ⟨hk1, hk2⟩ := hk0
  rcases Nat.lt_or_ge k xs.length with hlt | hge
  · obtain ⟨x, hx⟩ := get_lt hlt
    obtain ⟨y, hy⟩ := get_lt (xs := ys) (k := k) (by omega)
    repeat' (first | refine E.st ?_ | refine E.q ?_ | refine E.qs ?_ | refine E.q2 ?_ | refine E.tr ?_ | refine E.ap (fun _ _ => ?_) | refine E.b1 (fun _ _ => ?_) | refine E.b0 (fun _ _ => ?_) | refine E.bsn (fun _ _ => ?_) | refine E.mk (fun _ _ => ?_) | refine E.bx (fun _ => ?_) | refine E.al (fun _ => ?_) | refine E.sb ?_ | refine E.dq ?_ | refine E.ct ?_ | refine E.cf ?_ | refine E.cs (fun hh => ?_) (fun hh => ?_) | refine E.at_block_other rfl ?_)
    · exact rb (eq_no hx hy (by rintro rfl; exact hh rfl))
    · exact rd (k + 1) ⟨by omega, eq_st hk2 hx hy (by first | exact pe_eq hh | exact pe_eq (Decidable.not_not.1 hh))⟩
  · repeat' (first | refine E.st ?_ | refine E.q ?_ | refine E.qs ?_ | refine E.q2 ?_ | refine E.tr ?_ | refine E.ap (fun _ _ => ?_) | refine E.b1 (fun _ _ => ?_) | refine E.b0 (fun _ _ => ?_) | refine E.bsn (fun _ _ => ?_) | refine E.mk (fun _ _ => ?_) | refine E.bx (fun _ => ?_) | refine E.al (fun _ => ?_) | refine E.sb ?_ | refine E.dq ?_ | refine E.ct ?_ | refine E.cf ?_ | refine E.cs (fun hh => ?_) (fun hh => ?_) | refine E.at_block_other rfl ?_)
    exact rb (eq_all hk2 (by omega) (by omega))
theorem c_equalNd {v u : Value} {xs ys : List Nd} (w : World) (hr : RdF w v xs := by exact rdA) (hq : RdF w u ys := by exact rdA) : Calls Try.prog 117 #[v, u] w (Ret (fun _ : Unit => .bool (decide (xs = ys))) (fun _ => []) w) := by
  have m1 := hr.le
  have m2 := hq.le
  simp only [maxLen] at m1 m2
  refine enter (args := _) Try.func117 rfl Try.ntmps117 (by simp) ?_
  repeat' (first | refine E.st ?_ | refine E.q ?_ | refine E.qs ?_ | refine E.q2 ?_ | refine E.tr ?_ | refine E.ap (fun _ _ => ?_) | refine E.b1 (fun _ _ => ?_) | refine E.b0 (fun _ _ => ?_) | refine E.bsn (fun _ _ => ?_) | refine E.mk (fun _ _ => ?_) | refine E.bx (fun _ => ?_) | refine E.al (fun _ => ?_) | refine E.sb ?_ | refine E.dq ?_ | refine E.ct ?_ | refine E.cf ?_ | refine E.cs (fun hh => ?_) (fun hh => ?_) | refine E.at_block_other rfl ?_)
  · exact rb (eq_len (by omega))
  refine lq (fun k : Nat => k ≤ xs.length ∧ xs.take k = ys.take k) (fun k => [(13, .pl (.int .i64 (k : Int)))]) (fun k => []) (fun k => xs.length - k) 0 ⟨Nat.zero_le _, rfl⟩ (fun k hk0 => ?_)
  obtain ⟨hk1, hk2⟩ := hk0
  rcases Nat.lt_or_ge k xs.length with hlt | hge
  · obtain ⟨x, hx⟩ := get_lt hlt
    obtain ⟨y, hy⟩ := get_lt (xs := ys) (k := k) (by omega)
    repeat' (first | refine E.st ?_ | refine E.q ?_ | refine E.qs ?_ | refine E.q2 ?_ | refine E.tr ?_ | refine E.ap (fun _ _ => ?_) | refine E.b1 (fun _ _ => ?_) | refine E.b0 (fun _ _ => ?_) | refine E.bsn (fun _ _ => ?_) | refine E.mk (fun _ _ => ?_) | refine E.bx (fun _ => ?_) | refine E.al (fun _ => ?_) | refine E.sb ?_ | refine E.dq ?_ | refine E.ct ?_ | refine E.cf ?_ | refine E.cs (fun hh => ?_) (fun hh => ?_) | refine E.at_block_other rfl ?_)
    · exact rb (eq_no hx hy (by rintro rfl; exact hh rfl))
    · exact rd (k + 1) ⟨by omega, eq_st hk2 hx hy (by first | exact nd_eq hh | exact nd_eq (Decidable.not_not.1 hh))⟩
  · repeat' (first | refine E.st ?_ | refine E.q ?_ | refine E.qs ?_ | refine E.q2 ?_ | refine E.tr ?_ | refine E.ap (fun _ _ => ?_) | refine E.b1 (fun _ _ => ?_) | refine E.b0 (fun _ _ => ?_) | refine E.bsn (fun _ _ => ?_) | refine E.mk (fun _ _ => ?_) | refine E.bx (fun _ => ?_) | refine E.al (fun _ => ?_) | refine E.sb ?_ | refine E.dq ?_ | refine E.ct ?_ | refine E.cf ?_ | refine E.cs (fun hh => ?_) (fun hh => ?_) | refine E.at_block_other rfl ?_)
    exact rb (eq_all hk2 (by omega) (by omega))
theorem c_equalEg {v u : Value} {xs ys : List Eg} (w : World) (hr : RdF w v xs := by exact rdA) (hq : RdF w u ys := by exact rdA) : Calls Try.prog 118 #[v, u] w (Ret (fun _ : Unit => .bool (decide (xs = ys))) (fun _ => []) w) := by
  have m1 := hr.le
  have m2 := hq.le
  simp only [maxLen] at m1 m2
  refine enter (args := _) Try.func118 rfl Try.ntmps118 (by simp) ?_
  repeat' (first | refine E.st ?_ | refine E.q ?_ | refine E.qs ?_ | refine E.q2 ?_ | refine E.tr ?_ | refine E.ap (fun _ _ => ?_) | refine E.b1 (fun _ _ => ?_) | refine E.b0 (fun _ _ => ?_) | refine E.bsn (fun _ _ => ?_) | refine E.mk (fun _ _ => ?_) | refine E.bx (fun _ => ?_) | refine E.al (fun _ => ?_) | refine E.sb ?_ | refine E.dq ?_ | refine E.ct ?_ | refine E.cf ?_ | refine E.cs (fun hh => ?_) (fun hh => ?_) | refine E.at_block_other rfl ?_)
  · exact rb (eq_len (by omega))
  refine lq (fun k : Nat => k ≤ xs.length ∧ xs.take k = ys.take k) (fun k => [(13, .pl (.int .i64 (k : Int)))]) (fun k => []) (fun k => xs.length - k) 0 ⟨Nat.zero_le _, rfl⟩ (fun k hk0 => ?_)
  obtain ⟨hk1, hk2⟩ := hk0
  rcases Nat.lt_or_ge k xs.length with hlt | hge
  · obtain ⟨x, hx⟩ := get_lt hlt
    obtain ⟨y, hy⟩ := get_lt (xs := ys) (k := k) (by omega)
    repeat' (first | refine E.st ?_ | refine E.q ?_ | refine E.qs ?_ | refine E.q2 ?_ | refine E.tr ?_ | refine E.ap (fun _ _ => ?_) | refine E.b1 (fun _ _ => ?_) | refine E.b0 (fun _ _ => ?_) | refine E.bsn (fun _ _ => ?_) | refine E.mk (fun _ _ => ?_) | refine E.bx (fun _ => ?_) | refine E.al (fun _ => ?_) | refine E.sb ?_ | refine E.dq ?_ | refine E.ct ?_ | refine E.cf ?_ | refine E.cs (fun hh => ?_) (fun hh => ?_) | refine E.at_block_other rfl ?_)
    · exact rb (eq_no hx hy (by rintro rfl; exact hh rfl))
    · exact rd (k + 1) ⟨by omega, eq_st hk2 hx hy (by first | exact eg_eq hh | exact eg_eq (Decidable.not_not.1 hh))⟩
  · repeat' (first | refine E.st ?_ | refine E.q ?_ | refine E.qs ?_ | refine E.q2 ?_ | refine E.tr ?_ | refine E.ap (fun _ _ => ?_) | refine E.b1 (fun _ _ => ?_) | refine E.b0 (fun _ _ => ?_) | refine E.bsn (fun _ _ => ?_) | refine E.mk (fun _ _ => ?_) | refine E.bx (fun _ => ?_) | refine E.al (fun _ => ?_) | refine E.sb ?_ | refine E.dq ?_ | refine E.ct ?_ | refine E.cf ?_ | refine E.cs (fun hh => ?_) (fun hh => ?_) | refine E.at_block_other rfl ?_)
    exact rb (eq_all hk2 (by omega) (by omega))
theorem c_equalPg {v u : Value} {xs ys : List Pg} (w : World) (hr : RdF w v xs := by exact rdA) (hq : RdF w u ys := by exact rdA) : Calls Try.prog 119 #[v, u] w (Ret (fun _ : Unit => .bool (decide (xs = ys))) (fun _ => []) w) := by
  have m1 := hr.le
  have m2 := hq.le
  simp only [maxLen] at m1 m2
  refine enter (args := _) Try.func119 rfl Try.ntmps119 (by simp) ?_
  repeat' (first | refine E.st ?_ | refine E.q ?_ | refine E.qs ?_ | refine E.q2 ?_ | refine E.tr ?_ | refine E.ap (fun _ _ => ?_) | refine E.b1 (fun _ _ => ?_) | refine E.b0 (fun _ _ => ?_) | refine E.bsn (fun _ _ => ?_) | refine E.mk (fun _ _ => ?_) | refine E.bx (fun _ => ?_) | refine E.al (fun _ => ?_) | refine E.sb ?_ | refine E.dq ?_ | refine E.ct ?_ | refine E.cf ?_ | refine E.cs (fun hh => ?_) (fun hh => ?_) | refine E.at_block_other rfl ?_)
  · exact rb (eq_len (by omega))
  refine lq (fun k : Nat => k ≤ xs.length ∧ xs.take k = ys.take k) (fun k => [(13, .pl (.int .i64 (k : Int)))]) (fun k => []) (fun k => xs.length - k) 0 ⟨Nat.zero_le _, rfl⟩ (fun k hk0 => ?_)
  obtain ⟨hk1, hk2⟩ := hk0
  rcases Nat.lt_or_ge k xs.length with hlt | hge
  · obtain ⟨x, hx⟩ := get_lt hlt
    obtain ⟨y, hy⟩ := get_lt (xs := ys) (k := k) (by omega)
    repeat' (first | refine E.st ?_ | refine E.q ?_ | refine E.qs ?_ | refine E.q2 ?_ | refine E.tr ?_ | refine E.ap (fun _ _ => ?_) | refine E.b1 (fun _ _ => ?_) | refine E.b0 (fun _ _ => ?_) | refine E.bsn (fun _ _ => ?_) | refine E.mk (fun _ _ => ?_) | refine E.bx (fun _ => ?_) | refine E.al (fun _ => ?_) | refine E.sb ?_ | refine E.dq ?_ | refine E.ct ?_ | refine E.cf ?_ | refine E.cs (fun hh => ?_) (fun hh => ?_) | refine E.at_block_other rfl ?_)
    · exact rb (eq_no hx hy (by rintro rfl; exact hh rfl))
    · exact rd (k + 1) ⟨by omega, eq_st hk2 hx hy (by first | exact pg_eq hh | exact pg_eq (Decidable.not_not.1 hh))⟩
  · repeat' (first | refine E.st ?_ | refine E.q ?_ | refine E.qs ?_ | refine E.q2 ?_ | refine E.tr ?_ | refine E.ap (fun _ _ => ?_) | refine E.b1 (fun _ _ => ?_) | refine E.b0 (fun _ _ => ?_) | refine E.bsn (fun _ _ => ?_) | refine E.mk (fun _ _ => ?_) | refine E.bx (fun _ => ?_) | refine E.al (fun _ => ?_) | refine E.sb ?_ | refine E.dq ?_ | refine E.ct ?_ | refine E.cf ?_ | refine E.cs (fun hh => ?_) (fun hh => ?_) | refine E.at_block_other rfl ?_)
    exact rb (eq_all hk2 (by omega) (by omega))
theorem c_equalint {v u : Value} {xs ys : List Int} (w : World) (hr : RdF w v xs := by exact rdA) (hq : RdF w u ys := by exact rdA) : Calls Try.prog 60 #[v, u] w (Ret (fun _ : Unit => .bool (decide (xs = ys))) (fun _ => []) w) := by
  have m1 := hr.le
  have m2 := hq.le
  simp only [maxLen] at m1 m2
  refine enter (args := _) Try.func60 rfl Try.ntmps60 (by simp) ?_
  repeat' (first | refine E.st ?_ | refine E.q ?_ | refine E.qs ?_ | refine E.q2 ?_ | refine E.tr ?_ | refine E.ap (fun _ _ => ?_) | refine E.b1 (fun _ _ => ?_) | refine E.b0 (fun _ _ => ?_) | refine E.bsn (fun _ _ => ?_) | refine E.mk (fun _ _ => ?_) | refine E.bx (fun _ => ?_) | refine E.al (fun _ => ?_) | refine E.sb ?_ | refine E.dq ?_ | refine E.ct ?_ | refine E.cf ?_ | refine E.cs (fun hh => ?_) (fun hh => ?_) | refine E.at_block_other rfl ?_)
  · exact rb (eq_len (by omega))
  refine lq (fun k : Nat => k ≤ xs.length ∧ xs.take k = ys.take k) (fun k => [(13, .pl (.int .i64 (k : Int)))]) (fun k => []) (fun k => xs.length - k) 0 ⟨Nat.zero_le _, rfl⟩ (fun k hk0 => ?_)
  obtain ⟨hk1, hk2⟩ := hk0
  rcases Nat.lt_or_ge k xs.length with hlt | hge
  · obtain ⟨x, hx⟩ := get_lt hlt
    obtain ⟨y, hy⟩ := get_lt (xs := ys) (k := k) (by omega)
    repeat' (first | refine E.st ?_ | refine E.q ?_ | refine E.qs ?_ | refine E.q2 ?_ | refine E.tr ?_ | refine E.ap (fun _ _ => ?_) | refine E.b1 (fun _ _ => ?_) | refine E.b0 (fun _ _ => ?_) | refine E.bsn (fun _ _ => ?_) | refine E.mk (fun _ _ => ?_) | refine E.bx (fun _ => ?_) | refine E.al (fun _ => ?_) | refine E.sb ?_ | refine E.dq ?_ | refine E.ct ?_ | refine E.cf ?_ | refine E.cs (fun hh => ?_) (fun hh => ?_) | refine E.at_block_other rfl ?_)
    · exact rb (eq_no hx hy (by rintro rfl; exact hh rfl))
    · exact rd (k + 1) ⟨by omega, eq_st hk2 hx hy (by first | exact int_eq hh | exact int_eq (Decidable.not_not.1 hh))⟩
  · repeat' (first | refine E.st ?_ | refine E.q ?_ | refine E.qs ?_ | refine E.q2 ?_ | refine E.tr ?_ | refine E.ap (fun _ _ => ?_) | refine E.b1 (fun _ _ => ?_) | refine E.b0 (fun _ _ => ?_) | refine E.bsn (fun _ _ => ?_) | refine E.mk (fun _ _ => ?_) | refine E.bx (fun _ => ?_) | refine E.al (fun _ => ?_) | refine E.sb ?_ | refine E.dq ?_ | refine E.ct ?_ | refine E.cf ?_ | refine E.cs (fun hh => ?_) (fun hh => ?_) | refine E.at_block_other rfl ?_)
    exact rb (eq_all hk2 (by omega) (by omega))
theorem c_i_GraphSame {v u v' u' : Value} {ns ns' : List Nd} {es es' : List Eg} (w : World) (hr : RdF w v ns := by exact rdA) (hq : RdF w u es := by exact rdA) (hr' : RdF w v' ns' := by exact rdA) (hq' : RdF w u' es' := by exact rdA) : Calls Try.prog 57 #[.agg #[v, u], .agg #[v', u']] w (Ret (fun _ : Unit => .bool (decide (ns = ns' ∧ es = es'))) (fun _ => []) w) := by
  have o1 := hr.one
  have o2 := hq.one
  have o3 := hr'.one
  have o4 := hq'.one
  refine enter (args := _) Try.func57 rfl Try.ntmps57 (by simp) ?_
  repeat' (first | refine E.st ?_ | refine E.cl (h := fun _ w _ => c_equalNd w) (k := ?_) | refine E.cl (h := fun _ w _ => c_equalEg w) (k := ?_)  | refine E.q ?_ | refine E.qs ?_ | refine E.q2 ?_ | refine E.tr ?_ | refine E.ap (fun _ _ => ?_) | refine E.b1 (fun _ _ => ?_) | refine E.b0 (fun _ _ => ?_) | refine E.bsn (fun _ _ => ?_) | refine E.mk (fun _ _ => ?_) | refine E.bx (fun _ => ?_) | refine E.al (fun _ => ?_) | refine E.sb ?_ | refine E.dq ?_ | refine E.ct ?_ | refine E.cf ?_ | refine E.cs (fun hh => ?_) (fun hh => ?_) | refine E.at_block_other rfl ?_)
  all_goals (refine rb ?_; simp_all)
theorem c_s_GraphSame {v u v' u' : Value} {ns ns' : List Nd} {es es' : List Eg} (w : World) (hr : RdF w v ns := by exact rdA) (hq : RdF w u es := by exact rdA) (hr' : RdF w v' ns' := by exact rdA) (hq' : RdF w u' es' := by exact rdA) : Calls Try.prog 52 #[.agg #[v, u], .agg #[v', u']] w (Ret (fun _ : Unit => .bool (decide (ns = ns' ∧ es = es'))) (fun _ => []) w) := by
  have o1 := hr.one
  have o2 := hq.one
  have o3 := hr'.one
  have o4 := hq'.one
  have m1 := hr.le
  have m2 := hq.le
  have m3 := hr'.le
  have m4 := hq'.le
  simp only [maxLen] at m1 m2 m3 m4
  refine enter (args := _) Try.func52 rfl Try.ntmps52 (by simp) ?_
  repeat' (first | refine E.st ?_ | refine E.q ?_ | refine E.qs ?_ | refine E.q2 ?_ | refine E.tr ?_ | refine E.ap (fun _ _ => ?_) | refine E.b1 (fun _ _ => ?_) | refine E.b0 (fun _ _ => ?_) | refine E.bsn (fun _ _ => ?_) | refine E.mk (fun _ _ => ?_) | refine E.bx (fun _ => ?_) | refine E.al (fun _ => ?_) | refine E.sb ?_ | refine E.dq ?_ | refine E.ct ?_ | refine E.cf ?_ | refine E.cs (fun hh => ?_) (fun hh => ?_) | refine E.at_block_other rfl ?_)
  · refine rb (Eq.symm ?_)
    rw [decide_eq_false_iff_not]
    rintro ⟨h1, h2⟩
    subst h1; subst h2
    omega
  have hl : ns.length = ns'.length ∧ es.length = es'.length := by
    omega
  obtain ⟨hl1, hl2⟩ := hl
  refine lq (fun k : Nat => k ≤ ns.length ∧ ns.take k = ns'.take k) (fun k => [(5, .pl (.int .i64 (k : Int)))]) (fun k => []) (fun k => ns.length - k) 0 ⟨Nat.zero_le _, rfl⟩ (fun k hk0 => ?_)
  obtain ⟨hk1, hk2⟩ := hk0
  rcases Nat.lt_or_ge k ns.length with hlt | hge
  · obtain ⟨x, hx⟩ := get_lt hlt
    obtain ⟨y, hy⟩ := get_lt (xs := ns') (k := k) (by omega)
    repeat' (first | refine E.st ?_ | refine E.q ?_ | refine E.qs ?_ | refine E.q2 ?_ | refine E.tr ?_ | refine E.ap (fun _ _ => ?_) | refine E.b1 (fun _ _ => ?_) | refine E.b0 (fun _ _ => ?_) | refine E.bsn (fun _ _ => ?_) | refine E.mk (fun _ _ => ?_) | refine E.bx (fun _ => ?_) | refine E.al (fun _ => ?_) | refine E.sb ?_ | refine E.dq ?_ | refine E.ct ?_ | refine E.cf ?_ | refine E.cs (fun hh => ?_) (fun hh => ?_) | refine E.at_block_other rfl ?_)
    · exact rb (by rw [eq_comm, decide_eq_false_iff_not]; rintro ⟨h1, -⟩; exact absurd h1 (of_decide_eq_false (eq_no hx hy (by rintro rfl; exact hh rfl)).symm))
    · exact rd (k + 1) ⟨by omega, eq_st hk2 hx hy (by first | exact nd_eq hh | exact nd_eq (Decidable.not_not.1 hh))⟩
  have ex : ns = ns' := of_decide_eq_true (eq_all hk2 (by omega) (by omega)).symm
  repeat' (first | refine E.st ?_ | refine E.q ?_ | refine E.qs ?_ | refine E.q2 ?_ | refine E.tr ?_ | refine E.ap (fun _ _ => ?_) | refine E.b1 (fun _ _ => ?_) | refine E.b0 (fun _ _ => ?_) | refine E.bsn (fun _ _ => ?_) | refine E.mk (fun _ _ => ?_) | refine E.bx (fun _ => ?_) | refine E.al (fun _ => ?_) | refine E.sb ?_ | refine E.dq ?_ | refine E.ct ?_ | refine E.cf ?_ | refine E.cs (fun hh => ?_) (fun hh => ?_) | refine E.at_block_other rfl ?_)
  refine lq (fun k : Nat => k ≤ es.length ∧ es.take k = es'.take k) (fun k => [(6, .pl (.int .i64 (k : Int)))]) (fun k => []) (fun k => es.length - k) 0 ⟨Nat.zero_le _, rfl⟩ (fun k hk0 => ?_)
  obtain ⟨hk1, hk2⟩ := hk0
  rcases Nat.lt_or_ge k es.length with hlt | hge
  · obtain ⟨x, hx⟩ := get_lt hlt
    obtain ⟨y, hy⟩ := get_lt (xs := es') (k := k) (by omega)
    repeat' (first | refine E.st ?_ | refine E.q ?_ | refine E.qs ?_ | refine E.q2 ?_ | refine E.tr ?_ | refine E.ap (fun _ _ => ?_) | refine E.b1 (fun _ _ => ?_) | refine E.b0 (fun _ _ => ?_) | refine E.bsn (fun _ _ => ?_) | refine E.mk (fun _ _ => ?_) | refine E.bx (fun _ => ?_) | refine E.al (fun _ => ?_) | refine E.sb ?_ | refine E.dq ?_ | refine E.ct ?_ | refine E.cf ?_ | refine E.cs (fun hh => ?_) (fun hh => ?_) | refine E.at_block_other rfl ?_)
    · exact rb (by rw [eq_comm, decide_eq_false_iff_not]; rintro ⟨-, h1⟩; exact absurd h1 (of_decide_eq_false (eq_no hx hy (by rintro rfl; exact hh rfl)).symm))
    · exact rd (k + 1) ⟨by omega, eq_st hk2 hx hy (by first | exact eg_eq hh | exact eg_eq (Decidable.not_not.1 hh))⟩
  have ey : es = es' := of_decide_eq_true (eq_all hk2 (by omega) (by omega)).symm
  repeat' (first | refine E.st ?_ | refine E.q ?_ | refine E.qs ?_ | refine E.q2 ?_ | refine E.tr ?_ | refine E.ap (fun _ _ => ?_) | refine E.b1 (fun _ _ => ?_) | refine E.b0 (fun _ _ => ?_) | refine E.bsn (fun _ _ => ?_) | refine E.mk (fun _ _ => ?_) | refine E.bx (fun _ => ?_) | refine E.al (fun _ => ?_) | refine E.sb ?_ | refine E.dq ?_ | refine E.ct ?_ | refine E.cf ?_ | refine E.cs (fun hh => ?_) (fun hh => ?_) | refine E.at_block_other rfl ?_)
  refine rb ?_
  simp [ex, ey]
theorem c_i_PoolSame {z z' : Int} {A A' : Option Addr} {n m n' m' : Nat} {xs ys : List Pg} (w : World) (hr : RdF w (.slice A n m) xs := by exact rdA) (hq : RdF w (.slice A' n' m') ys := by exact rdA) :
    Calls Try.prog 59 #[.agg #[.int .i64 z, .slice A n m], .agg #[.int .i64 z', .slice A' n' m']] w (Ret (fun _ : Unit => .bool (decide ((⟨z, xs⟩ : Pl) = ⟨z', ys⟩))) (fun _ => []) w) := by
  have m1 := hr.le
  have m2 := hq.le
  simp only [maxLen] at m1 m2
  refine enter (args := _) Try.func59 rfl Try.ntmps59 (by simp) ?_
  repeat' (first | refine E.st ?_ | refine E.cl (h := fun _ w _ => c_equalPg w) (k := ?_)  | refine E.q ?_ | refine E.qs ?_ | refine E.q2 ?_ | refine E.tr ?_ | refine E.ap (fun _ _ => ?_) | refine E.b1 (fun _ _ => ?_) | refine E.b0 (fun _ _ => ?_) | refine E.bsn (fun _ _ => ?_) | refine E.mk (fun _ _ => ?_) | refine E.bx (fun _ => ?_) | refine E.al (fun _ => ?_) | refine E.sb ?_ | refine E.dq ?_ | refine E.ct ?_ | refine E.cf ?_ | refine E.cs (fun hh => ?_) (fun hh => ?_) | refine E.at_block_other rfl ?_)
  all_goals (refine rb ?_; simp_all)
theorem c_s_PoolSame {z z' : Int} {A A' : Option Addr} {n m n' m' : Nat} {xs ys : List Pg} (w : World) (hr : RdF w (.slice A n m) xs := by exact rdA) (hq : RdF w (.slice A' n' m') ys := by exact rdA) :
    Calls Try.prog 53 #[.agg #[.int .i64 z, .slice A n m], .agg #[.int .i64 z', .slice A' n' m']] w (Ret (fun _ : Unit => .bool (decide ((⟨z, xs⟩ : Pl) = ⟨z', ys⟩))) (fun _ => []) w) := by
  have m1 := hr.le
  have m2 := hq.le
  simp only [maxLen] at m1 m2
  refine enter (args := _) Try.func53 rfl Try.ntmps53 (by simp) ?_
  repeat' (first | refine E.st ?_ | refine E.q ?_ | refine E.qs ?_ | refine E.q2 ?_ | refine E.tr ?_ | refine E.ap (fun _ _ => ?_) | refine E.b1 (fun _ _ => ?_) | refine E.b0 (fun _ _ => ?_) | refine E.bsn (fun _ _ => ?_) | refine E.mk (fun _ _ => ?_) | refine E.bx (fun _ => ?_) | refine E.al (fun _ => ?_) | refine E.sb ?_ | refine E.dq ?_ | refine E.ct ?_ | refine E.cf ?_ | refine E.cs (fun hh => ?_) (fun hh => ?_) | refine E.at_block_other rfl ?_)
  · refine rb (Eq.symm ?_)
    rw [decide_eq_false_iff_not]
    intro h
    have h1 := (Pl.mk.inj h).1
    have h2 := (Pl.mk.inj h).2
    subst h1; subst h2
    omega
  have hl : z = z' ∧ xs.length = ys.length := by
    omega
  obtain ⟨rfl, hl1⟩ := hl
  refine lq (fun k : Nat => k ≤ xs.length ∧ xs.take k = ys.take k) (fun k => [(5, .pl (.int .i64 (k : Int)))]) (fun k => []) (fun k => xs.length - k) 0 ⟨Nat.zero_le _, rfl⟩ (fun k hk0 => ?_)
  obtain ⟨hk1, hk2⟩ := hk0
  rcases Nat.lt_or_ge k xs.length with hlt | hge
  · obtain ⟨x, hx⟩ := get_lt hlt
    obtain ⟨y, hy⟩ := get_lt (xs := ys) (k := k) (by omega)
    repeat' (first | refine E.st ?_ | refine E.q ?_ | refine E.qs ?_ | refine E.q2 ?_ | refine E.tr ?_ | refine E.ap (fun _ _ => ?_) | refine E.b1 (fun _ _ => ?_) | refine E.b0 (fun _ _ => ?_) | refine E.bsn (fun _ _ => ?_) | refine E.mk (fun _ _ => ?_) | refine E.bx (fun _ => ?_) | refine E.al (fun _ => ?_) | refine E.sb ?_ | refine E.dq ?_ | refine E.ct ?_ | refine E.cf ?_ | refine E.cs (fun hh => ?_) (fun hh => ?_) | refine E.at_block_other rfl ?_)
    · exact rb (by rw [eq_comm, decide_eq_false_iff_not]; intro h; exact absurd (Pl.mk.inj h).2 (of_decide_eq_false (eq_no hx hy (by rintro rfl; exact hh rfl)).symm))
    · exact rd (k + 1) ⟨by omega, eq_st hk2 hx hy (by first | exact pg_eq hh | exact pg_eq (Decidable.not_not.1 hh))⟩
  have ex : xs = ys := of_decide_eq_true (eq_all hk2 (by omega) (by omega)).symm
  repeat' (first | refine E.st ?_ | refine E.q ?_ | refine E.qs ?_ | refine E.q2 ?_ | refine E.tr ?_ | refine E.ap (fun _ _ => ?_) | refine E.b1 (fun _ _ => ?_) | refine E.b0 (fun _ _ => ?_) | refine E.bsn (fun _ _ => ?_) | refine E.mk (fun _ _ => ?_) | refine E.bx (fun _ => ?_) | refine E.al (fun _ => ?_) | refine E.sb ?_ | refine E.dq ?_ | refine E.ct ?_ | refine E.cf ?_ | refine E.cs (fun hh => ?_) (fun hh => ?_) | refine E.at_block_other rfl ?_)
  refine rb ?_
  simp [ex]
theorem c_equalPl {v u : Value} {ps qs : List Pl} (w : World) (hr : RdN w v ps := by exact rdN) (hq : RdN w u qs := by exact rdN) : Calls Try.prog 58 #[v, u, .func (.func 59) #[] #[]] w (Ret (fun _ : Unit => .bool (decide (ps = qs))) (fun _ => []) w) := by
  obtain ⟨xs, hx0, ⟨hl, hM⟩, hin⟩ := hr
  obtain ⟨ys, hy0, ⟨hl', hM'⟩, hin'⟩ := hq
  have m1 := hx0.le
  have m2 := hy0.le
  simp only [maxLen] at m1 m2
  refine enter (args := _) Try.func58 rfl Try.ntmps58 (by simp) ?_
  repeat' (first | refine E.st ?_ | refine E.q ?_ | refine E.qs ?_ | refine E.q2 ?_ | refine E.tr ?_ | refine E.ap (fun _ _ => ?_) | refine E.b1 (fun _ _ => ?_) | refine E.b0 (fun _ _ => ?_) | refine E.bsn (fun _ _ => ?_) | refine E.mk (fun _ _ => ?_) | refine E.bx (fun _ => ?_) | refine E.al (fun _ => ?_) | refine E.sb ?_ | refine E.dq ?_ | refine E.ct ?_ | refine E.cf ?_ | refine E.cs (fun hh => ?_) (fun hh => ?_) | refine E.at_block_other rfl ?_)
  · exact rb (eq_len (by omega))
  refine lq (fun k : Nat => k ≤ xs.length ∧ ps.take k = qs.take k) (fun k => [(17, .pl (.int .i64 (k : Int)))]) (fun k => []) (fun k => xs.length - k) 0 ⟨Nat.zero_le _, rfl⟩ (fun k hk0 => ?_)
  obtain ⟨hk1, hk2⟩ := hk0
  rcases Nat.lt_or_ge k xs.length with hlt | hge
  · obtain ⟨x, hx⟩ := get_lt hlt
    obtain ⟨y, hy⟩ := get_lt (xs := ys) (k := k) (by omega)
    obtain ⟨p, hp⟩ := get_lt (xs := ps) (k := k) (by omega)
    obtain ⟨q, hq⟩ := get_lt (xs := qs) (k := k) (by omega)
    have hlt' : k < ys.length := by omega
    have i1 := hin k x p hx hp
    have i2 := hin' k y q hy hq
    have e1 : x.z = p.z := hM k x p hx hp
    have e2 : y.z = q.z := hM' k y q hy hq
    have hc : ∀ w' K, KOk w K w' → Calls Try.prog 59 #[.agg #[.int .i64 x.z, .slice x.s.a x.s.n x.s.c], .agg #[.int .i64 y.z, .slice y.s.a y.s.n y.s.c]] w' (Ret (fun _ : Unit => .bool (decide (p = q))) (fun _ => []) w') := fun w' K hw => by
      have := c_i_PoolSame (z := x.z) (z' := y.z) w' (i1.now hw) (i2.now hw)
      rw [e1, e2] at this ⊢
      exact this
    repeat' (first | refine E.st ?_ | refine E.clt (h := fun _ w hw => hc w _ hw) (k := ?_) | refine E.q ?_ | refine E.qs ?_ | refine E.q2 ?_ | refine E.tr ?_ | refine E.ap (fun _ _ => ?_) | refine E.b1 (fun _ _ => ?_) | refine E.b0 (fun _ _ => ?_) | refine E.bsn (fun _ _ => ?_) | refine E.mk (fun _ _ => ?_) | refine E.bx (fun _ => ?_) | refine E.al (fun _ => ?_) | refine E.sb ?_ | refine E.dq ?_ | refine E.ct ?_ | refine E.cf ?_ | refine E.cs (fun hh => ?_) (fun hh => ?_) | refine E.at_block_other rfl ?_)
    · exact rb (eq_no hp hq hh)
    · exact rd (k + 1) ⟨by omega, eq_st hk2 hp hq hh⟩
  · repeat' (first | refine E.st ?_ | refine E.q ?_ | refine E.qs ?_ | refine E.q2 ?_ | refine E.tr ?_ | refine E.ap (fun _ _ => ?_) | refine E.b1 (fun _ _ => ?_) | refine E.b0 (fun _ _ => ?_) | refine E.bsn (fun _ _ => ?_) | refine E.mk (fun _ _ => ?_) | refine E.bx (fun _ => ?_) | refine E.al (fun _ => ?_) | refine E.sb ?_ | refine E.dq ?_ | refine E.ct ?_ | refine E.cf ?_ | refine E.cs (fun hh => ?_) (fun hh => ?_) | refine E.at_block_other rfl ?_)
    exact rb (eq_all hk2 (by omega) (by omega))
end E
end Go.Proofs.Ytmopokamcbcggaa
