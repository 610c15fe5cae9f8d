/- Contracts on worlds that are right; the law of WorldOk. -/
import Derived.Test.YtmopokamcbcggaaCe
namespace Go.Proofs.Ytmopokamcbcggaa
namespace E
open Go Go.RowKit
set_option linter.unusedSimpArgs false
set_option linter.unusedVariables false
set_option maxHeartbeats 1000000
set_option maxRecDepth 10000
attribute [local irreducible] HC HL HQ HX HO At Y YV Opd Opds KnX Sl Ld Src GV RV Calls Code.wp eptr adr RdF ownF OneX HG LdC
def WOk (d : Wd) : Prop := PsOk d.ps ∧ gok d.ns d.es = true ∧ d.qs.length = d.ps.length ∧ d.ls.length = d.ps.length ∧ ∀ (i : Nat) p q l, d.ps[i]? = some p → d.qs[i]? = some q → d.ls[i]? = some l → PlOk q ∧ q.z = p.z ∧ 0 ≤ l ∧ l ≤ p.q
noncomputable def wok (d : Wd) : Bool := @decide (WOk d) (Classical.propDecidable _)
theorem wok_t {d : Wd} (h : WOk d) : wok d = true := by unfold wok; exact @decide_eq_true _ (Classical.propDecidable _) h
theorem wok_f {d : Wd} (h : ¬ WOk d) : wok d = false := by unfold wok; exact @decide_eq_false _ (Classical.propDecidable _) h
theorem c_s_WorldOk {v1 v2 v3 v4 v5 : Value} {d : Wd} (w : World) (hr : RdW w v1 v2 v3 v4 v5 d := by exact rdW) : Calls Try.prog 23 #[.agg #[v1, v2, v3, v4, v5]] w (Ret (fun _ : Unit => .bool (wok d)) (fun _ => []) w) := by
  obtain ⟨r1', r2, r3, ⟨xs, r4, ⟨hl, hM⟩, hin⟩, r5⟩ := hr
  have o1 := r1'.one
  have o2 := r2.one
  have o3 := r3.one
  have o4 := r4.one
  have o5 := r5.one
  have m1 := r1'.le
  have m4 := r4.le
  have m5 := r5.le
  simp only [maxLen] at m1 m4 m5
  refine enter (args := _) Try.func23 rfl Try.ntmps23 (by simp) ?_
  repeat' (first | refine E.st ?_ | refine E.cl (h := fun _ w _ => c_l7People w) (k := ?_) | refine E.cl (h := fun _ w _ => c_s_GraphOk w) (k := ?_)  | refine E.q ?_ | refine E.qs ?_ | refine E.q2 ?_ | refine E.tr ?_ | refine E.ap (fun _ _ => ?_) | refine E.b1 (fun _ _ => ?_) | refine E.b0 (fun _ _ => ?_) | refine E.bsn (fun _ _ => ?_) | refine E.mk (fun _ _ => ?_) | refine E.bx (fun _ => ?_) | refine E.al (fun _ => ?_) | refine E.sb ?_ | refine E.dq ?_ | refine E.ct ?_ | refine E.cf ?_ | refine E.cs (fun hh => ?_) (fun hh => ?_) | refine E.at_block_other rfl ?_)
  · refine rb (wok_f (fun h => ?_)).symm
    obtain ⟨h1, h2, h3, h4, _⟩ := h
    rcases hh with ((h | h) | h) | h
    · exact h h1
    · rw [h2] at h; cases h
    · omega
    · omega
  obtain ⟨⟨⟨g1, g2⟩, g3⟩, g4⟩ := hh
  refine lq (fun k : Nat => k ≤ d.ps.length ∧ ∀ (i : Nat) p q l, i < k → d.ps[i]? = some p → d.qs[i]? = some q → d.ls[i]? = some l → PlOk q ∧ q.z = p.z ∧ 0 ≤ l ∧ l ≤ p.q) (fun k => [(4, .pl (.int .i64 (k : Int)))]) (fun _ => []) (fun k => d.ps.length - k) 0 ⟨Nat.zero_le _, fun i p q l h => absurd h (by omega)⟩ (fun k hk => ?_)
  obtain ⟨hk1, hk2⟩ := hk
  rcases Nat.lt_or_ge k d.ps.length with hlt | hge
  · obtain ⟨p, hp⟩ := get_lt hlt
    obtain ⟨x, hx⟩ := get_lt (xs := xs) (k := k) (by omega)
    obtain ⟨q, hq⟩ := get_lt (xs := d.qs) (k := k) (by omega)
    obtain ⟨l, hl'⟩ := get_lt (xs := d.ls) (k := k) (by omega)
    have hlx : k < xs.length := by omega
    have hll : k < d.ls.length := by omega
    have hz : x.z = q.z := hM k x q hx hq
    have hi := hin k x q hx hq
    have hc : ∀ K w', KOk w K w' → Calls Try.prog 71 #[.agg #[.int .i64 x.z, .slice x.s.a x.s.n x.s.c]] w' (Ret (fun _ : Unit => .bool (decide (PlOk q))) (fun _ => []) w') := fun K w' hw => by
      have := c_s_PoolOk (z := x.z) w' (hi.now hw)
      rw [hz] at this ⊢
      exact this
    repeat' (first | refine E.st ?_ | refine E.cl (h := fun _ w hw => hc _ w hw) (k := ?_) | refine E.q ?_ | refine E.qs ?_ | refine E.q2 ?_ | refine E.tr ?_ | refine E.ap (fun _ _ => ?_) | refine E.b1 (fun _ _ => ?_) | refine E.b0 (fun _ _ => ?_) | refine E.bsn (fun _ _ => ?_) | refine E.mk (fun _ _ => ?_) | refine E.bx (fun _ => ?_) | refine E.al (fun _ => ?_) | refine E.sb ?_ | refine E.dq ?_ | refine E.ct ?_ | refine E.cf ?_ | refine E.cs (fun hh => ?_) (fun hh => ?_) | refine E.at_block_other rfl ?_)
    · refine rb (wok_f (fun h => ?_)).symm
      obtain ⟨e1, e2, e3, e4⟩ := h.2.2.2.2 k p q l hp hq hl'
      rcases hh with ((h | h) | h) | h
      · exact h e1
      · exact h (by rw [hz]; exact e2)
      · omega
      · omega
    · obtain ⟨⟨⟨e1, e2⟩, e3⟩, e4⟩ := hh
      refine rd (k + 1) ⟨by omega, fun i p' q' l' hi hp' hq' hl'' => ?_⟩
      rcases Nat.lt_or_ge i k with h | h
      · exact hk2 i p' q' l' h hp' hq' hl''
      · have : i = k := by omega
        subst this
        rw [hp] at hp'; injection hp' with hp'; subst hp'
        rw [hq] at hq'; injection hq' with hq'; subst hq'
        rw [hl'] at hl''; injection hl'' with hl''; subst hl''
        exact ⟨e1, by rw [← hz]; exact e2, by omega, by omega⟩
  · repeat' (first | refine E.st ?_ | refine E.q ?_ | refine E.qs ?_ | refine E.q2 ?_ | refine E.tr ?_ | refine E.ap (fun _ _ => ?_) | refine E.b1 (fun _ _ => ?_) | refine E.b0 (fun _ _ => ?_) | refine E.bsn (fun _ _ => ?_) | refine E.mk (fun _ _ => ?_) | refine E.bx (fun _ => ?_) | refine E.al (fun _ => ?_) | refine E.sb ?_ | refine E.dq ?_ | refine E.ct ?_ | refine E.cf ?_ | refine E.cs (fun hh => ?_) (fun hh => ?_) | refine E.at_block_other rfl ?_)
    refine rb (wok_t ⟨g1, g2, by omega, by omega, fun i p q l hp hq hl' => hk2 i p q l ?_ hp hq hl'⟩).symm
    have := (List.getElem?_eq_some_iff.1 hp).1
    omega
theorem c_i_WorldOk {v1 v2 v3 v4 v5 : Value} {d : Wd} (w : World) (hr : RdW w v1 v2 v3 v4 v5 d := by exact rdW) : Calls Try.prog 24 #[.agg #[v1, v2, v3, v4, v5]] w (Ret (fun _ : Unit => .bool (wok d)) (fun _ => []) w) := by
  obtain ⟨r1', r2, r3, ⟨xs, r4, ⟨hl, hM⟩, hin⟩, r5⟩ := hr
  have o1 := r1'.one
  have o2 := r2.one
  have o3 := r3.one
  have o4 := r4.one
  have o5 := r5.one
  have m1 := r1'.le
  have m4 := r4.le
  have m5 := r5.le
  simp only [maxLen] at m1 m4 m5
  refine enter (args := _) Try.func24 rfl Try.ntmps24 (by simp) ?_
  repeat' (first | refine E.st ?_ | refine E.cl (h := fun _ w _ => c_peopleOk w) (k := ?_) | refine E.cl (h := fun _ w _ => c_i_GraphOk w) (k := ?_)  | refine E.q ?_ | refine E.qs ?_ | refine E.q2 ?_ | refine E.tr ?_ | refine E.ap (fun _ _ => ?_) | refine E.b1 (fun _ _ => ?_) | refine E.b0 (fun _ _ => ?_) | refine E.bsn (fun _ _ => ?_) | refine E.mk (fun _ _ => ?_) | refine E.bx (fun _ => ?_) | refine E.al (fun _ => ?_) | refine E.sb ?_ | refine E.dq ?_ | refine E.ct ?_ | refine E.cf ?_ | refine E.cs (fun hh => ?_) (fun hh => ?_) | refine E.at_block_other rfl ?_)
  · refine rb (wok_f (fun h => ?_)).symm
    obtain ⟨h1, h2, _⟩ := h
    rcases hh with h | h
    · exact h h1
    · rw [h2] at h; cases h
  · refine rb (wok_f (fun h => ?_)).symm
    obtain ⟨_, _, h3, h4, _⟩ := h
    rcases hh with h | h
    · omega
    · omega
  rename_i hg
  obtain ⟨g1, g2⟩ := hg
  obtain ⟨g3, g4⟩ := hh
  refine lq (fun k : Nat => k ≤ d.ps.length ∧ ∀ (i : Nat) p q l, i < k → d.ps[i]? = some p → d.qs[i]? = some q → d.ls[i]? = some l → PlOk q ∧ q.z = p.z ∧ 0 ≤ l ∧ l ≤ p.q) (fun k => [(34, .pl (.int .i64 (k : Int)))]) (fun _ => []) (fun k => d.ps.length - k) 0 ⟨Nat.zero_le _, fun i p q l h => absurd h (by omega)⟩ (fun k hk => ?_)
  obtain ⟨hk1, hk2⟩ := hk
  rcases Nat.lt_or_ge k d.ps.length with hlt | hge
  · obtain ⟨p, hp⟩ := get_lt hlt
    obtain ⟨x, hx⟩ := get_lt (xs := xs) (k := k) (by omega)
    obtain ⟨q, hq⟩ := get_lt (xs := d.qs) (k := k) (by omega)
    obtain ⟨l, hl'⟩ := get_lt (xs := d.ls) (k := k) (by omega)
    have hlx : k < xs.length := by omega
    have hll : k < d.ls.length := by omega
    have hz : x.z = q.z := hM k x q hx hq
    have hi := hin k x q hx hq
    have hc : ∀ K w', KOk w K w' → Calls Try.prog 73 #[.agg #[.int .i64 x.z, .slice x.s.a x.s.n x.s.c]] w' (Ret (fun _ : Unit => .bool (decide (PlOk q))) (fun _ => []) w') := fun K w' hw => by
      have := c_i_PoolOk (z := x.z) w' (hi.now hw)
      rw [hz] at this ⊢
      exact this
    repeat' (first | refine E.st ?_ | refine E.cl (h := fun _ w hw => hc _ w hw) (k := ?_) | refine E.q ?_ | refine E.qs ?_ | refine E.q2 ?_ | refine E.tr ?_ | refine E.ap (fun _ _ => ?_) | refine E.b1 (fun _ _ => ?_) | refine E.b0 (fun _ _ => ?_) | refine E.bsn (fun _ _ => ?_) | refine E.mk (fun _ _ => ?_) | refine E.bx (fun _ => ?_) | refine E.al (fun _ => ?_) | refine E.sb ?_ | refine E.dq ?_ | refine E.ct ?_ | refine E.cf ?_ | refine E.cs (fun hh => ?_) (fun hh => ?_) | refine E.at_block_other rfl ?_)
    · refine rb (wok_f (fun h => ?_)).symm
      obtain ⟨e1, e2, e3, e4⟩ := h.2.2.2.2 k p q l hp hq hl'
      rcases hh with ((h | h) | h) | h
      · exact h e1
      · exact h (by rw [hz]; exact e2)
      · omega
      · omega
    · obtain ⟨⟨⟨e1, e2⟩, e3⟩, e4⟩ := hh
      refine rd (k + 1) ⟨by omega, fun i p' q' l' hi hp' hq' hl'' => ?_⟩
      rcases Nat.lt_or_ge i k with h | h
      · exact hk2 i p' q' l' h hp' hq' hl''
      · have : i = k := by omega
        subst this
        rw [hp] at hp'; injection hp' with hp'; subst hp'
        rw [hq] at hq'; injection hq' with hq'; subst hq'
        rw [hl'] at hl''; injection hl'' with hl''; subst hl''
        exact ⟨e1, by rw [← hz]; exact e2, by omega, by omega⟩
  · repeat' (first | refine E.st ?_ | refine E.q ?_ | refine E.qs ?_ | refine E.q2 ?_ | refine E.tr ?_ | refine E.ap (fun _ _ => ?_) | refine E.b1 (fun _ _ => ?_) | refine E.b0 (fun _ _ => ?_) | refine E.bsn (fun _ _ => ?_) | refine E.mk (fun _ _ => ?_) | refine E.bx (fun _ => ?_) | refine E.al (fun _ => ?_) | refine E.sb ?_ | refine E.dq ?_ | refine E.ct ?_ | refine E.cf ?_ | refine E.cs (fun hh => ?_) (fun hh => ?_) | refine E.at_block_other rfl ?_)
    refine rb (wok_t ⟨g1, g2, by omega, by omega, fun i p q l hp hq hl' => hk2 i p q l ?_ hp hq hl'⟩).symm
    have := (List.getElem?_eq_some_iff.1 hp).1
    omega
end E
end Go.Proofs.Ytmopokamcbcggaa
