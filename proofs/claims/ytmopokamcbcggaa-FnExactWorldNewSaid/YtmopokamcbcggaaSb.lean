/- Worlds: same or not, both sides. -/
import Derived.Test.YtmopokamcbcggaaSa
import Derived.Test.YtmopokamcbcggaaCf
import Derived.Test.YtmopokamcbcggaaU
namespace Go.Proofs.Ytmopokamcbcggaa
namespace E
open Go Go.RowKit
set_option linter.unusedSimpArgs false
set_option linter.unusedVariables false
set_option maxHeartbeats 1000000
set_option maxRecDepth 10000
attribute [local irreducible] HC HL HQ HX HO At Y YV Opd Opds KnX Sl Ld Src GV RV Calls Code.wp eptr adr RdF ownF OneX HG LdC
theorem RdW.ofK' {w0 w : World} {K : List Ck} {s1 s2 s3 s4 s5 : Sv} {rows : List PlR} {d : Wd} (hw : KOk w0 K w) (hs : InK (wck s1 s2 s3 s4 s5 rows d) K := by exact ink) (hM : Match rows d.qs := by assumption) : RdW w (.slice s1.a s1.n s1.c) (.slice s2.a s2.n s2.c) (.slice s3.a s3.n s3.c) (.slice s4.a s4.n s4.c) (.slice s5.a s5.n s5.c) d := RdW.ofK hw hM hs
theorem ks_beh {L K : List Ck} : KSub (L ++ K) K := KSub.ofPerm2 _ _ L List.perm_append_comm
theorem ks_beh2 {L K K' : List Ck} (h : KSub K K') : KSub (L ++ K) K' := by
  obtain ⟨M, hp⟩ := h.perm
  exact KSub.ofPerm2 _ _ (M ++ L) ((hp.append_left L).trans (List.perm_append_comm.trans (by rw [List.append_assoc])))
theorem wz {a G : Prop} (h : a) (k : a → G) : G := k h
theorem same_World {v1 v2 v3 v4 v5 u1 u2 u3 u4 u5 : Value} {d : Wd} (w : World) (hr : RdW w v1 v2 v3 v4 v5 d) (hq : RdW w u1 u2 u3 u4 u5 d) : Calls Try.prog 14 #[.agg #[v1, v2, v3, v4, v5], .agg #[u1, u2, u3, u4, u5]] w (Ret (fun _ : Unit => .bool true) (fun _ => []) w) := by
  have := c_eqWorld w hr hq
  rwa [decide_eq_true rfl] at this
theorem c_i_WorldSame {v1 v2 v3 v4 v5 u1 u2 u3 u4 u5 : Value} {d d' : Wd} (w : World) (hr : RdW w v1 v2 v3 v4 v5 d) (hq : RdW w u1 u2 u3 u4 u5 d') : Calls Try.prog 13 #[.agg #[v1, v2, v3, v4, v5], .agg #[u1, u2, u3, u4, u5]] w (Ret (fun _ : Unit => .bool (decide (d = d'))) (fun _ => []) w) := by
  obtain ⟨r1', r2, r3, r4, r5⟩ := hr
  obtain ⟨q1, q2, q3, q4, q5⟩ := hq
  have o1 := r1'.one
  have o2 := r2.one
  have o3 := r3.one
  have o4 := r4.one
  have o5 := r5.one
  have p1 := q1.one
  have p2 := q2.one
  have p3 := q3.one
  have p4 := q4.one
  have p5 := q5.one
  refine enter (args := _) Try.func13 rfl Try.ntmps13 (by simp) ?_
  repeat' (first | refine E.st ?_ | refine E.cl (h := fun _ w _ => c_equalPe w) (k := ?_) | refine E.cl (h := fun _ w _ => c_i_GraphSame w) (k := ?_) | refine E.cl (h := fun _ w _ => c_equalPl w) (k := ?_) | refine E.cl (h := fun _ w _ => c_equalint w) (k := ?_)  | refine E.q ?_ | refine E.qs ?_ | refine E.q2 ?_ | refine E.tr ?_ | refine E.ap (fun _ _ => ?_) | refine E.b1 (fun _ _ => ?_) | refine E.b0 (fun _ _ => ?_) | refine E.bsn (fun _ _ => ?_) | refine E.mk (fun _ _ => ?_) | refine E.bx (fun _ => ?_) | refine E.al (fun _ => ?_) | refine E.sb ?_ | refine E.dq ?_ | refine E.ct ?_ | refine E.cf ?_ | refine E.cs (fun hh => ?_) (fun hh => ?_) | refine E.at_block_other rfl ?_)
  all_goals (refine rb ?_; cases d; cases d'; simp_all [Bool.and_assoc])
theorem c_s_WorldSame {v1 v2 v3 v4 v5 u1 u2 u3 u4 u5 : Value} {d d' : Wd} (w : World) (hr : RdW w v1 v2 v3 v4 v5 d) (hq : RdW w u1 u2 u3 u4 u5 d') : Calls Try.prog 11 #[.agg #[v1, v2, v3, v4, v5], .agg #[u1, u2, u3, u4, u5]] w (Ret (fun _ : Unit => .bool (decide (d = d'))) (fun _ => []) w) := by
  obtain ⟨r1', r2, r3, ⟨xs, r4, ⟨hl, hM⟩, hin⟩, r5⟩ := hr
  obtain ⟨q1, q2, q3, ⟨ys, q4, ⟨hl', hM'⟩, hin'⟩, q5⟩ := hq
  have o1 := r1'.one
  have o2 := r2.one
  have o3 := r3.one
  have o4 := r4.one
  have o5 := r5.one
  have p1 := q1.one
  have p2 := q2.one
  have p3 := q3.one
  have p4 := q4.one
  have p5 := q5.one
  have m1 := r1'.le
  have m4 := r4.le
  have m5 := r5.le
  have n1 := q1.le
  have n4 := q4.le
  have n5 := q5.le
  simp only [maxLen] at m1 m4 m5 n1 n4 n5
  refine enter (args := _) Try.func11 rfl Try.ntmps11 (by simp) ?_
  repeat' (first | refine E.st ?_ | refine E.cl (h := fun _ w _ => c_s_GraphSame w) (k := ?_)  | refine E.q ?_ | refine E.qs ?_ | refine E.q2 ?_ | refine E.tr ?_ | refine E.ap (fun _ _ => ?_) | refine E.b1 (fun _ _ => ?_) | refine E.b0 (fun _ _ => ?_) | refine E.bsn (fun _ _ => ?_) | refine E.mk (fun _ _ => ?_) | refine E.bx (fun _ => ?_) | refine E.al (fun _ => ?_) | refine E.sb ?_ | refine E.dq ?_ | refine E.ct ?_ | refine E.cf ?_ | refine E.cs (fun hh => ?_) (fun hh => ?_) | refine E.at_block_other rfl ?_)
  · refine rb (decide_eq_false (fun h => ?_)).symm
    subst h
    rcases hh with ((h | h) | h) | h
    · omega
    · omega
    · omega
    · simp at h
  have hlen : d.ps.length = d'.ps.length ∧ xs.length = ys.length ∧ d.ls.length = d'.ls.length ∧ d.ns = d'.ns ∧ d.es = d'.es := by
    obtain ⟨⟨⟨a, b⟩, c⟩, e⟩ := hh
    refine ⟨by omega, by omega, by omega, ?_, ?_⟩
    · exact e.1
    · exact e.2
  obtain ⟨l1, l2, l3, e2, e3⟩ := hlen
  refine lq (fun k : Nat => k ≤ d.ps.length ∧ d.ps.take k = d'.ps.take k) (fun k => [(5, .pl (.int .i64 (k : Int)))]) (fun k => []) (fun k => d.ps.length - k) 0 ⟨Nat.zero_le _, rfl⟩ (fun k hk0 => ?_)
  obtain ⟨hk1, hk2⟩ := hk0
  rcases Nat.lt_or_ge k d.ps.length with hlt | hge
  · obtain ⟨x, hx⟩ := get_lt hlt
    obtain ⟨y, hy⟩ := get_lt (xs := d'.ps) (k := k) (by omega)
    repeat' (first | refine E.st ?_ | refine E.q ?_ | refine E.qs ?_ | refine E.q2 ?_ | refine E.tr ?_ | refine E.ap (fun _ _ => ?_) | refine E.b1 (fun _ _ => ?_) | refine E.b0 (fun _ _ => ?_) | refine E.bsn (fun _ _ => ?_) | refine E.mk (fun _ _ => ?_) | refine E.bx (fun _ => ?_) | refine E.al (fun _ => ?_) | refine E.sb ?_ | refine E.dq ?_ | refine E.ct ?_ | refine E.cf ?_ | refine E.cs (fun hh => ?_) (fun hh => ?_) | refine E.at_block_other rfl ?_)
    · exact rb (decide_eq_false (fun h => by subst h; rw [hx] at hy; injection hy with hy; subst hy; exact hh rfl)).symm
    · exact rd (k + 1) ⟨by omega, eq_st hk2 hx hy (by first | exact pe_eq hh | exact pe_eq (Decidable.not_not.1 hh))⟩
  have e1 : d.ps = d'.ps := of_decide_eq_true (eq_all hk2 (by omega) (by omega)).symm
  repeat' (first | refine E.st ?_ | refine E.q ?_ | refine E.qs ?_ | refine E.q2 ?_ | refine E.tr ?_ | refine E.ap (fun _ _ => ?_) | refine E.b1 (fun _ _ => ?_) | refine E.b0 (fun _ _ => ?_) | refine E.bsn (fun _ _ => ?_) | refine E.mk (fun _ _ => ?_) | refine E.bx (fun _ => ?_) | refine E.al (fun _ => ?_) | refine E.sb ?_ | refine E.dq ?_ | refine E.ct ?_ | refine E.cf ?_ | refine E.cs (fun hh => ?_) (fun hh => ?_) | refine E.at_block_other rfl ?_)
  refine lq (fun k : Nat => k ≤ xs.length ∧ d.qs.take k = d'.qs.take k) (fun k => [(6, .pl (.int .i64 (k : Int)))]) (fun k => []) (fun k => xs.length - k) 0 ⟨Nat.zero_le _, rfl⟩ (fun j hj0 => ?_)
  obtain ⟨hj1, hj2⟩ := hj0
  rcases Nat.lt_or_ge j xs.length with hlt | hge'
  · obtain ⟨x, hx⟩ := get_lt hlt
    obtain ⟨y, hy⟩ := get_lt (xs := ys) (k := j) (by omega)
    obtain ⟨p, hp⟩ := get_lt (xs := d.qs) (k := j) (by omega)
    obtain ⟨q, hq⟩ := get_lt (xs := d'.qs) (k := j) (by omega)
    have hlt' : j < ys.length := by omega
    have i1 := hin j x p hx hp
    have i2 := hin' j y q hy hq
    have z1 : x.z = p.z := hM j x p hx hp
    have z2 : y.z = q.z := hM' j y q hy hq
    have hc : ∀ w' K, KOk w K w' → Calls Try.prog 53 #[.agg #[.int .i64 x.z, .slice x.s.a x.s.n x.s.c], .agg #[.int .i64 y.z, .slice y.s.a y.s.n y.s.c]] w' (Ret (fun _ : Unit => .bool (decide (p = q))) (fun _ => []) w') := fun w' K hw => by
      have := c_s_PoolSame (z := x.z) (z' := y.z) w' (i1.now hw) (i2.now hw)
      rw [z1, z2] at this ⊢
      exact this
    repeat' (first | refine E.st ?_ | refine E.cl (h := fun _ w hw => hc w _ hw) (k := ?_) | refine E.q ?_ | refine E.qs ?_ | refine E.q2 ?_ | refine E.tr ?_ | refine E.ap (fun _ _ => ?_) | refine E.b1 (fun _ _ => ?_) | refine E.b0 (fun _ _ => ?_) | refine E.bsn (fun _ _ => ?_) | refine E.mk (fun _ _ => ?_) | refine E.bx (fun _ => ?_) | refine E.al (fun _ => ?_) | refine E.sb ?_ | refine E.dq ?_ | refine E.ct ?_ | refine E.cf ?_ | refine E.cs (fun hh => ?_) (fun hh => ?_) | refine E.at_block_other rfl ?_)
    · exact rb (decide_eq_false (fun h => hh (by rw [h, hq] at hp; injection hp with hp; exact hp.symm))).symm
    · exact rd (j + 1) ⟨by omega, eq_st hj2 hp hq hh⟩
  have e4 : d.qs = d'.qs := of_decide_eq_true (eq_all hj2 (by omega) (by omega)).symm
  repeat' (first | refine E.st ?_ | refine E.q ?_ | refine E.qs ?_ | refine E.q2 ?_ | refine E.tr ?_ | refine E.ap (fun _ _ => ?_) | refine E.b1 (fun _ _ => ?_) | refine E.b0 (fun _ _ => ?_) | refine E.bsn (fun _ _ => ?_) | refine E.mk (fun _ _ => ?_) | refine E.bx (fun _ => ?_) | refine E.al (fun _ => ?_) | refine E.sb ?_ | refine E.dq ?_ | refine E.ct ?_ | refine E.cf ?_ | refine E.cs (fun hh => ?_) (fun hh => ?_) | refine E.at_block_other rfl ?_)
  refine lq (fun k : Nat => k ≤ d.ls.length ∧ d.ls.take k = d'.ls.take k) (fun k => [(7, .pl (.int .i64 (k : Int)))]) (fun k => []) (fun k => d.ls.length - k) 0 ⟨Nat.zero_le _, rfl⟩ (fun i hi0 => ?_)
  obtain ⟨hi1, hi2⟩ := hi0
  rcases Nat.lt_or_ge i d.ls.length with hlt | hge''
  · obtain ⟨x, hx⟩ := get_lt hlt
    obtain ⟨y, hy⟩ := get_lt (xs := d'.ls) (k := i) (by omega)
    repeat' (first | refine E.st ?_ | refine E.q ?_ | refine E.qs ?_ | refine E.q2 ?_ | refine E.tr ?_ | refine E.ap (fun _ _ => ?_) | refine E.b1 (fun _ _ => ?_) | refine E.b0 (fun _ _ => ?_) | refine E.bsn (fun _ _ => ?_) | refine E.mk (fun _ _ => ?_) | refine E.bx (fun _ => ?_) | refine E.al (fun _ => ?_) | refine E.sb ?_ | refine E.dq ?_ | refine E.ct ?_ | refine E.cf ?_ | refine E.cs (fun hh => ?_) (fun hh => ?_) | refine E.at_block_other rfl ?_)
    · exact rb (decide_eq_false (fun h => hh (by rw [h, hy] at hx; injection hx with hx; exact hx.symm))).symm
    · exact rd (i + 1) ⟨by omega, eq_st hi2 hx hy (by first | exact hh | exact Decidable.not_not.1 hh)⟩
  have e5 : d.ls = d'.ls := of_decide_eq_true (eq_all hi2 (by omega) (by omega)).symm
  repeat' (first | refine E.st ?_ | refine E.q ?_ | refine E.qs ?_ | refine E.q2 ?_ | refine E.tr ?_ | refine E.ap (fun _ _ => ?_) | refine E.b1 (fun _ _ => ?_) | refine E.b0 (fun _ _ => ?_) | refine E.bsn (fun _ _ => ?_) | refine E.mk (fun _ _ => ?_) | refine E.bx (fun _ => ?_) | refine E.al (fun _ => ?_) | refine E.sb ?_ | refine E.dq ?_ | refine E.ct ?_ | refine E.cf ?_ | refine E.cs (fun hh => ?_) (fun hh => ?_) | refine E.at_block_other rfl ?_)
  refine rb (decide_eq_true ?_).symm
  cases d; cases d'
  simp_all
end E
end Go.Proofs.Ytmopokamcbcggaa
