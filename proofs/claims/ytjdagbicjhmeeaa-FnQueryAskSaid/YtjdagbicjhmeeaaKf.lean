/- What is near, as the reference says it; views. -/
import Derived.Test.YtjdagbicjhmeeaaKd
namespace Go.Proofs.Ytjdagbicjhmeeaa
namespace E
open Go Go.RowKit
set_option linter.unusedSimpArgs false
set_option linter.unusedVariables false
set_option maxHeartbeats 1000000
set_option maxRecDepth 10000
attribute [local irreducible] HC HL HQ HX HO At Y YV Opd Opds KnX Sl Ld Src GV RV Calls Code.wp eptr adr RdF ownF OneX HG LdC
theorem near_len (es : List Eg) (n : Nd) : (nearL es n).length ≤ es.length := by
  have : ∀ (es : List Eg) (acc : List Nd), (es.foldl (nearS n) acc).length ≤ acc.length + es.length := by
    intro es
    induction es with
    | nil => simp
    | cons e es ih =>
      intro acc
      have h1 := ih (nearS n acc e)
      have h2 : (nearS n acc e).length ≤ acc.length + 1 := by
        unfold nearS
        split
        · exact len_addN _ _
        · omega
      simp only [List.foldl_cons, List.length_cons]
      omega
  have := this es []
  simpa [nearL] using this
theorem c_l2Near {v u : Value} {es : List Eg} {l n : Int} (w : World) (he : ∀ e ∈ es, eok e = true) (hl : es.length ≤ 100000) (hr : RdF w u es := by exact rdA) (hv : v.oneCell' = true := by assumption) : Calls Try.prog 43 #[.agg #[v, u], .agg #[.int .i64 l, .int .i64 n]] w (Ret (fun s : Sv => .slice s.a s.n s.c) (fun s => [ownF 29 (.slice s.a s.n s.c) (nearL es ⟨l, n⟩)]) w) := by
  refine calls_sv ?_
  have m1 := hr.le
  have o1 := hr.one
  simp only [maxLen] at m1
  refine enter (args := _) Try.func43 rfl Try.ntmps43 (by simp) ?_
  repeat' (first | refine E.st ?_ | refine E.al (fun g5 => ?_) | refine E.q3 ?_ | refine E.q ?_ | refine E.qs ?_ | refine E.q2 ?_ | refine E.q4 ?_ | refine E.tr ?_ | refine E.ap (fun _ _ => ?_) | refine E.b1 (fun _ _ => ?_) | refine E.b0 (fun _ _ => ?_) | refine E.bsn (fun _ _ => ?_) | refine E.mk (fun _ _ => ?_) | refine E.bxO (fun _ => ?_) | refine E.al (fun _ => ?_) | refine E.sbO ?_ | refine E.dq ?_ | refine E.ct ?_ | refine E.cf ?_ | refine E.cs (fun hh => ?_) (fun hh => ?_) | refine E.at_block_other rfl ?_)
  refine E.nl 29 ?_
  refine lq (fun p : Nat × { v' : Value // v'.oneCell' = true } => p.1 ≤ es.length) (fun p => [(6, .pl (.int .i64 (p.1 : Int)))]) (fun p => [.box g5 59 [p.2.1, .slice none 0 0], ownF 29 p.2.1 (nearL (es.take p.1) ⟨l, n⟩)]) (fun p => es.length - p.1) (0, ⟨.slice none 0 0, rfl⟩) (Nat.zero_le _) (fun p hp => ?_)
  obtain ⟨k, ⟨v', hv'⟩⟩ := p
  dsimp only at hp ⊢
  have hacc := ord_nearL (es := es.take k) (n := ⟨l, n⟩) (fun e h => he e (List.mem_of_mem_take h))
  have hal := near_len (es.take k) ⟨l, n⟩
  have htk : (es.take k).length ≤ k := List.length_take_le _ _
  rcases Nat.lt_or_ge k es.length with hlt | hge
  · obtain ⟨x, hx⟩ := get_lt hlt
    have hst := nearL_step (n := ⟨l, n⟩) hx
    have hput := fun m => putN_ins (n := m) hacc
    repeat' (first | refine E.st ?_ | refine E.cl (h := fun _ w _ => c_s_l2At w) (k := ?_) | refine E.ckq (h := fun w hw => c_l2PutNode w hw (hu := by rfl)) (k := fun z => E.wy z.2 (fun hz => ?_)) | refine E.q3 ?_ | refine E.q ?_ | refine E.qs ?_ | refine E.q2 ?_ | refine E.q4 ?_ | refine E.tr ?_ | refine E.ap (fun _ _ => ?_) | refine E.b1 (fun _ _ => ?_) | refine E.b0 (fun _ _ => ?_) | refine E.bsn (fun _ _ => ?_) | refine E.mk (fun _ _ => ?_) | refine E.bxO (fun _ => ?_) | refine E.al (fun _ => ?_) | refine E.sbO ?_ | refine E.dq ?_ | refine E.ct ?_ | refine E.cf ?_ | refine E.cs (fun hh => ?_) (fun hh => ?_) | refine E.at_block_other rfl ?_)
    all_goals (refine rd (α := Nat × { v' : Value // v'.oneCell' = true }) (k + 1, ⟨_, ?_⟩) (by dsimp only; omega) (hK := KSub.pick pk (KSub.ownF pk ?_ ks)))
    all_goals first
      | assumption
      | skip
    all_goals
      dsimp only
      rw [hst]
      unfold nearS other
      have e1 : [x.a.l, x.a.n] = [l, n] ↔ x.a = ⟨l, n⟩ := by rw [← Decidable.not_iff_not]; exact nd_ne
      have e2 : [x.b.l, x.b.n] = [l, n] ↔ x.b = ⟨l, n⟩ := by rw [← Decidable.not_iff_not]; exact nd_ne
      have q1 := @pos_neg (nearL (es.take k) ⟨l, n⟩) x.b
      have q2 := @pos_neg (nearL (es.take k) ⟨l, n⟩) x.a
      have hp1 := hput x.b
      have hp2 := hput x.a
      have ea : ∀ (y : Nd), (⟨y.l, y.n⟩ : Nd) = y := fun y => rfl
      simp only [e1, e2, ea, q1, q2, Decidable.not_not] at *
      simp only [addN]
      simp [*]
  · repeat' (first | refine E.st ?_ | refine E.q3 ?_ | refine E.q ?_ | refine E.qs ?_ | refine E.q2 ?_ | refine E.q4 ?_ | refine E.tr ?_ | refine E.ap (fun _ _ => ?_) | refine E.b1 (fun _ _ => ?_) | refine E.b0 (fun _ _ => ?_) | refine E.bsn (fun _ _ => ?_) | refine E.mk (fun _ _ => ?_) | refine E.bxO (fun _ => ?_) | refine E.al (fun _ => ?_) | refine E.sbO ?_ | refine E.dq ?_ | refine E.ct ?_ | refine E.cf ?_ | refine E.cs (fun hh => ?_) (fun hh => ?_) | refine E.at_block_other rfl ?_)
    refine r1 _ (hK := KSub.ownF pk ?_ (KSub.nil _))
    rw [List.take_of_length_le hge]; rfl
end E
end Go.Proofs.Ytjdagbicjhmeeaa
