/- impl.GraphNear, walked. -/
import Derived.Test.YtpiiapoafmnhhaaGreatM11
namespace Go.Proofs.YtpiiapoafmnhhaaGreat
namespace E
open Go Go.RowKit
set_option linter.unusedSimpArgs false
set_option linter.unusedVariables false
set_option maxHeartbeats 1000000
set_option maxRecDepth 10000
attribute [local irreducible] HC HL HQ HX HO At Y YV Opd Opds KnX Sl Ld Src GV RV Calls Code.wp eptr adr RdF ownF OneX HG LdC
theorem graphNear : GraphNearC := by
  intro v u g l n w hg hr hq
  have o1 := hr.one
  have o2 := hq.one
  have hgt := gok_t hg
  have hel := hg.2.len
  have heok : ∀ e ∈ g.es, eok e = true := fun e he => (hg.2.1 e he).1
  refine enter (args := _) Tryz.func74 rfl Tryz.ntmps74 (by simp) ?_
  refine E.nl 32 (α := Nd) ?_
  repeat' (first | refine E.st ?_ | refine E.cl (h := fun _ w _ => c_i_GraphOk_t w hgt) (k := ?_)  | refine E.q3 ?_ | refine E.q ?_ | refine E.qs ?_ | refine E.q2 ?_ | refine E.q4 ?_ | refine E.tr ?_ | refine E.ap (fun _ _ => ?_) | refine E.b1 (fun _ _ => ?_) | refine E.b0 (fun _ _ => ?_) | refine E.bsn (fun _ _ => ?_) | refine E.mk (fun _ _ => ?_) | refine E.bxO (fun _ => ?_) | refine E.al (fun _ => ?_) | refine E.sbO ?_ | refine E.dq ?_ | refine E.ct ?_ | refine E.cf ?_ | refine E.cs (fun hh => ?_) (fun hh => ?_) | refine E.at_block_other rfl ?_)
  refine lq (fun p : Nat × V1 => p.1 ≤ g.es.length) (fun p => [(14, .pl (.int .i64 (p.1 : Int))), (5, .pl p.2.1)]) (fun p => [ownF 32 p.2.1 ((g.es.take p.1).flatMap (nearC ⟨l, n⟩))]) (fun p => g.es.length - p.1) (0, ⟨.slice none 0 0, rfl⟩) (Nat.zero_le _) (fun p hp => ?_)
  obtain ⟨k, ⟨v5, h5⟩⟩ := p
  dsimp only at hp h5 ⊢
  have hcl := colC_len ⟨l, n⟩ (g.es.take k)
  have hcl2 : ((g.es.take k).flatMap (nearC ⟨l, n⟩)).length ≤ 1000 := by
    have : (g.es.take k).length ≤ g.es.length := by rw [List.length_take]; omega
    omega
  rcases Nat.lt_or_ge k g.es.length with hlt | hge
  · obtain ⟨⟨el, ⟨al, an⟩, ⟨bl, bn⟩⟩, hx⟩ := get_lt hlt
    have hstep := colC_take (n := ⟨l, n⟩) hx
    by_cases h1 : (⟨l, n⟩ : Nd) = ⟨al, an⟩
    · have hs1 : nearC ⟨l, n⟩ ⟨el, ⟨al, an⟩, ⟨bl, bn⟩⟩ = [⟨bl, bn⟩] := if_pos h1
      rw [hs1] at hstep
      injection h1 with e1 e2
      subst e1 e2
      repeat' (first | refine E.st ?_ | refine E.q3 ?_ | refine E.q ?_ | refine E.qs ?_ | refine E.q2 ?_ | refine E.q4 ?_ | refine E.tr ?_ | refine E.ap (fun _ _ => ?_) | refine E.b1 (fun _ _ => ?_) | refine E.b0 (fun _ _ => ?_) | refine E.bsn (fun _ _ => ?_) | refine E.mk (fun _ _ => ?_) | refine E.bxO (fun _ => ?_) | refine E.al (fun _ => ?_) | refine E.sbO ?_ | refine E.dq ?_ | refine E.ct ?_ | refine E.cf ?_ | refine E.cs (fun hh => ?_) (fun hh => ?_) | refine E.at_block_other rfl ?_)
      all_goals first
        | (refine rd (α := Nat × V1) (k + 1, ⟨_, ?_⟩) hlt (hK := KSub.ownF pk hstep.symm ks); assumption)
        | (exfalso; simp_all; done)
    · by_cases h2 : (⟨l, n⟩ : Nd) = ⟨bl, bn⟩
      · have hs1 : nearC ⟨l, n⟩ ⟨el, ⟨al, an⟩, ⟨bl, bn⟩⟩ = [⟨al, an⟩] := by unfold nearC; rw [if_neg h1, if_pos h2]
        rw [hs1] at hstep
        have h3 : ¬ ([l, n] = [al, an]) := by intro h; apply h1; simp_all
        injection h2 with e1 e2
        subst e1 e2
        repeat' (first | refine E.st ?_ | refine E.q3 ?_ | refine E.q ?_ | refine E.qs ?_ | refine E.q2 ?_ | refine E.q4 ?_ | refine E.tr ?_ | refine E.ap (fun _ _ => ?_) | refine E.b1 (fun _ _ => ?_) | refine E.b0 (fun _ _ => ?_) | refine E.bsn (fun _ _ => ?_) | refine E.mk (fun _ _ => ?_) | refine E.bxO (fun _ => ?_) | refine E.al (fun _ => ?_) | refine E.sbO ?_ | refine E.dq ?_ | refine E.ct ?_ | refine E.cf ?_ | refine E.cs (fun hh => ?_) (fun hh => ?_) | refine E.at_block_other rfl ?_)
        all_goals first
          | (refine rd (α := Nat × V1) (k + 1, ⟨_, ?_⟩) hlt (hK := KSub.ownF pk hstep.symm ks); assumption)
          | (exfalso; simp_all; done)
      · have hs1 : nearC ⟨l, n⟩ ⟨el, ⟨al, an⟩, ⟨bl, bn⟩⟩ = [] := by unfold nearC; rw [if_neg h1, if_neg h2]
        rw [hs1, List.append_nil] at hstep
        repeat' (first | refine E.st ?_ | refine E.q3 ?_ | refine E.q ?_ | refine E.qs ?_ | refine E.q2 ?_ | refine E.q4 ?_ | refine E.tr ?_ | refine E.ap (fun _ _ => ?_) | refine E.b1 (fun _ _ => ?_) | refine E.b0 (fun _ _ => ?_) | refine E.bsn (fun _ _ => ?_) | refine E.mk (fun _ _ => ?_) | refine E.bxO (fun _ => ?_) | refine E.al (fun _ => ?_) | refine E.sbO ?_ | refine E.dq ?_ | refine E.ct ?_ | refine E.cf ?_ | refine E.cs (fun hh => ?_) (fun hh => ?_) | refine E.at_block_other rfl ?_)
        all_goals first
          | (refine rd (α := Nat × V1) (k + 1, ⟨_, ?_⟩) hlt (hK := KSub.ownF pk hstep.symm ks); assumption)
          | (exfalso; simp_all; done)
  · rw [List.take_of_length_le hge]
    have hnn : ∀ x ∈ g.es.flatMap (nearC ⟨l, n⟩), nok x = true := fun x hx => by
      obtain ⟨e, h2, h3⟩ := mem_nearL.1 (colC_mem.1 hx)
      exact other_nok (heok e h2) h3
    have hcl3 := colC_len ⟨l, n⟩ g.es
    repeat' (first | refine E.st ?_ | refine E.ckq (h := fun w hw => c_sort w hw hnn (by omega)) (k := fun z => E.wy z.2 (fun hz => E.wy (near_eq heok hz.1 hz.2) (fun hne => E.wy (hz.1.length_eq) (fun hzl => ?_)))) | refine E.ckq (h := fun w hw => c_compact w hw (by omega)) (k := fun y => ?_) | refine E.q3 ?_ | refine E.q ?_ | refine E.qs ?_ | refine E.q2 ?_ | refine E.q4 ?_ | refine E.tr ?_ | refine E.ap (fun _ _ => ?_) | refine E.b1 (fun _ _ => ?_) | refine E.b0 (fun _ _ => ?_) | refine E.bsn (fun _ _ => ?_) | refine E.mk (fun _ _ => ?_) | refine E.bxO (fun _ => ?_) | refine E.al (fun _ => ?_) | refine E.sbO ?_ | refine E.dq ?_ | refine E.ct ?_ | refine E.cf ?_ | refine E.cs (fun hh => ?_) (fun hh => ?_) | refine E.at_block_other rfl ?_)
    rw [hne]
    exact r1 (α := V1) y
end E
end Go.Proofs.YtpiiapoafmnhhaaGreat
