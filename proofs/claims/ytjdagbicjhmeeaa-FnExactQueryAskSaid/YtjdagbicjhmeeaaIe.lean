/- The program's answer to a question, given its rows of nodes. -/
import Derived.Test.YtjdagbicjhmeeaaId
namespace Go.Proofs.Ytjdagbicjhmeeaa
namespace E
open Go Go.RowKit
set_option linter.unusedSimpArgs false
set_option linter.unusedVariables false
set_option maxHeartbeats 1000000
set_option maxRecDepth 10000
attribute [local irreducible] HC HL HQ HX HO At Y YV Opd Opds KnX Sl Ld Src GV RV Calls Code.wp eptr adr RdF ownF OneX HG LdC
/-- What is asked of the program's GraphNear. -/
def GraphNearC : Prop := ∀ {v u : Value} {g : Gr} {l n : Int} (w : World), g.ok → RdF w v g.ns → RdF w u g.es → Calls Try.prog 31 #[.agg #[v, u], .agg #[.int .i64 l, .int .i64 n]] w (Ret (fun z : V1 => z.1) (fun z => [ownF 29 z.1 (nearL g.es ⟨l, n⟩)]) w)
theorem c_i_QueryOk {k l n : Int} (w : World) : Calls Try.prog 26 #[.agg #[.int .i64 k, .int .i64 l, .int .i64 n]] w (Ret (fun _ : Unit => .bool (qok ⟨k, ⟨l, n⟩⟩)) (fun _ => []) w) := by
  refine enter (args := _) Try.func26 rfl Try.ntmps26 (by simp) ?_
  repeat' (first | refine E.st ?_ | refine E.cl (h := fun _ w _ => c_i_NodeOk w) (k := ?_)  | refine E.q3 ?_ | refine E.q ?_ | refine E.qs ?_ | refine E.q2 ?_ | refine E.q4 ?_ | refine E.tr ?_ | refine E.ap (fun _ _ => ?_) | refine E.b1 (fun _ _ => ?_) | refine E.b0 (fun _ _ => ?_) | refine E.bsn (fun _ _ => ?_) | refine E.mk (fun _ _ => ?_) | refine E.bxO (fun _ => ?_) | refine E.al (fun _ => ?_) | refine E.sbO ?_ | refine E.dq ?_ | refine E.ct ?_ | refine E.cf ?_ | refine E.cs (fun hh => ?_) (fun hh => ?_) | refine E.at_block_other rfl ?_)
  all_goals (refine rb ?_; simp_all [qok])
theorem c_i_QueryOk_t {k l n : Int} (w : World) (h : qok ⟨k, ⟨l, n⟩⟩ = true) : Calls Try.prog 26 #[.agg #[.int .i64 k, .int .i64 l, .int .i64 n]] w (Ret (fun _ : Unit => .bool true) (fun _ => []) w) := by
  have := c_i_QueryOk (k := k) (l := l) (n := n) w
  rwa [h] at this
theorem c_i_QueryOk_f {k l n : Int} (w : World) (h : qok ⟨k, ⟨l, n⟩⟩ = false) : Calls Try.prog 26 #[.agg #[.int .i64 k, .int .i64 l, .int .i64 n]] w (Ret (fun _ : Unit => .bool false) (fun _ => []) w) := by
  have := c_i_QueryOk (k := k) (l := l) (n := n) w
  rwa [h] at this
theorem c_i_QueryAsk (hG : GraphNearC) (hN : NearC) {v u : Value} {g : Gr} {k l n : Int} (w : World) (hr : RdF w v g.ns := by exact rdA) (hq : RdF w u g.es := by exact rdA) :
    Calls Try.prog 18 #[.agg #[v, u], .agg #[.int .i64 k, .int .i64 l, .int .i64 n]] w (Ret (fun z : V1 => z.1) (fun z => [ownF 3 z.1 (askL g ⟨k, ⟨l, n⟩⟩)]) w) := by
  have o1 := hr.one
  have o2 := hq.one
  by_cases hg : g.ok
  · have hgt := gok_t hg
    have hnl := hg.1.len
    have hel := hg.2.len
    have hnl2 := near_len g.es ⟨l, n⟩
    cases hqk : qok ⟨k, ⟨l, n⟩⟩ with
    | false =>
      have ha : askL g ⟨k, ⟨l, n⟩⟩ = [] := if_neg (fun h => by rw [hqk] at h; cases h.2)
      rw [ha]
      refine enter (args := _) Try.func18 rfl Try.ntmps18 (by simp) ?_
      refine E.nl 3 (α := Int) ?_
      repeat' (first | refine E.st ?_ | refine E.cl (h := fun _ w _ => c_i_GraphOk_t w hgt) (k := ?_) | refine E.cl (h := fun _ w _ => c_i_QueryOk_f w hqk) (k := ?_)  | refine E.q3 ?_ | refine E.q ?_ | refine E.qs ?_ | refine E.q2 ?_ | refine E.q4 ?_ | refine E.tr ?_ | refine E.ap (fun _ _ => ?_) | refine E.b1 (fun _ _ => ?_) | refine E.b0 (fun _ _ => ?_) | refine E.bsn (fun _ _ => ?_) | refine E.mk (fun _ _ => ?_) | refine E.bxO (fun _ => ?_) | refine E.al (fun _ => ?_) | refine E.sbO ?_ | refine E.dq ?_ | refine E.ct ?_ | refine E.cf ?_ | refine E.cs (fun hh => ?_) (fun hh => ?_) | refine E.at_block_other rfl ?_)
      all_goals first
        | exact r1 (α := V1) ⟨_, rfl⟩
        | (exfalso; simp_all; done)
    | true =>
      have ha : askL g ⟨k, ⟨l, n⟩⟩ = askG g ⟨k, ⟨l, n⟩⟩ := if_pos ⟨hg, hqk⟩
      have h4 := qok_four hqk
      rw [ha]
      unfold askG
      dsimp only
      by_cases hk1 : k = 1
      · subst hk1
        have hnok : ∀ x ∈ nearL g.es ⟨l, n⟩, nok x = true := fun x hx => hg.1.1 x (near_mem_ns hg hx).1
        rw [if_pos rfl]
        refine enter (args := _) Try.func18 rfl Try.ntmps18 (by simp) ?_
        refine E.nl 3 (α := Int) ?_
        repeat' (first | refine E.st ?_ | refine E.cl (h := fun _ w _ => c_i_GraphOk_t w hgt) (k := ?_) | refine E.cl (h := fun _ w _ => c_i_QueryOk_t w hqk) (k := ?_) | refine E.cm (h := fun w hw => hG w hg (hr.now hw) (hq.now hw)) (k := fun y => E.wy y.2 (fun _ => ?_)) | refine E.q3 ?_ | refine E.q ?_ | refine E.qs ?_ | refine E.q2 ?_ | refine E.q4 ?_ | refine E.tr ?_ | refine E.ap (fun _ _ => ?_) | refine E.b1 (fun _ _ => ?_) | refine E.b0 (fun _ _ => ?_) | refine E.bsn (fun _ _ => ?_) | refine E.mk (fun _ _ => ?_) | refine E.bxO (fun _ => ?_) | refine E.al (fun _ => ?_) | refine E.sbO ?_ | refine E.dq ?_ | refine E.ct ?_ | refine E.cf ?_ | refine E.cs (fun hh => ?_) (fun hh => ?_) | refine E.at_block_other rfl ?_)
        · exact (hh.elim id id).elim
        refine lq (fun z : Nat × V1 => z.1 ≤ (nearL g.es ⟨l, n⟩).length) (fun z => [(25, .pl (.int .i64 (z.1 : Int))), (5, .pl z.2.1)]) (fun z => [ownF 3 z.2.1 (((nearL g.es ⟨l, n⟩).take z.1).map cd)]) (fun z => (nearL g.es ⟨l, n⟩).length - z.1) (0, ⟨.slice none 0 0, rfl⟩) (Nat.zero_le _) (fun z hz => ?_)
        obtain ⟨j, ⟨v5, h5⟩⟩ := z
        dsimp only at hz h5 ⊢
        have hlk : (((nearL g.es ⟨l, n⟩).take j).map cd).length ≤ 1000 := by simp; omega
        rcases Nat.lt_or_ge j (nearL g.es ⟨l, n⟩).length with hlt | hge
        · obtain ⟨⟨xl, xn⟩, hx⟩ := get_lt hlt
          have hcd := code_cd (hnok _ (List.mem_of_getElem? hx))
          repeat' (first | refine E.st ?_ | refine E.cl (h := fun _ w _ => c_i_NodeCode w) (k := ?_)  | refine E.q3 ?_ | refine E.q ?_ | refine E.qs ?_ | refine E.q2 ?_ | refine E.q4 ?_ | refine E.tr ?_ | refine E.ap (fun _ _ => ?_) | refine E.b1 (fun _ _ => ?_) | refine E.b0 (fun _ _ => ?_) | refine E.bsn (fun _ _ => ?_) | refine E.mk (fun _ _ => ?_) | refine E.bxO (fun _ => ?_) | refine E.al (fun _ => ?_) | refine E.sbO ?_ | refine E.dq ?_ | refine E.ct ?_ | refine E.cf ?_ | refine E.cs (fun hh => ?_) (fun hh => ?_) | refine E.at_block_other rfl ?_)
          refine rd (α := Nat × V1) (j + 1, ⟨_, ?_⟩) hlt (hK := KSub.ownF pk (by rw [hcd]; simp [List.take_add_one, hx]) ks)
          assumption
        · rw [List.take_of_length_le hge]
          repeat' (first | refine E.st ?_ | refine E.q3 ?_ | refine E.q ?_ | refine E.qs ?_ | refine E.q2 ?_ | refine E.q4 ?_ | refine E.tr ?_ | refine E.ap (fun _ _ => ?_) | refine E.b1 (fun _ _ => ?_) | refine E.b0 (fun _ _ => ?_) | refine E.bsn (fun _ _ => ?_) | refine E.mk (fun _ _ => ?_) | refine E.bxO (fun _ => ?_) | refine E.al (fun _ => ?_) | refine E.sbO ?_ | refine E.dq ?_ | refine E.ct ?_ | refine E.cf ?_ | refine E.cs (fun hh => ?_) (fun hh => ?_) | refine E.at_block_other rfl ?_)
          exact r1 (α := V1) ⟨v5, h5⟩
      · refine enter (args := _) Try.func18 rfl Try.ntmps18 (by simp) ?_
        repeat' (first | refine E.st ?_ | refine E.cl (h := fun _ w _ => c_i_GraphOk_t w hgt) (k := ?_) | refine E.cl (h := fun _ w _ => c_i_QueryOk_t w hqk) (k := ?_) | refine E.cm (h := fun w _ => c_i_WalkDist hN (g := g) w) (k := fun z => E.wy z.2 (fun _ => ?_)) | refine E.cm (h := fun w _ => c_i_WalkCore hN (g := g) w) (k := fun z => E.wy z.2 (fun _ => ?_)) | refine E.cl (h := fun _ w _ => c_i_WalkThrees hN (g := g) w) (k := ?_) | refine E.b1 (α := Int) (fun v9 h9 => ?_) | refine E.q3 ?_ | refine E.q ?_ | refine E.qs ?_ | refine E.q2 ?_ | refine E.q4 ?_ | refine E.tr ?_ | refine E.ap (fun _ _ => ?_) | refine E.b1 (fun _ _ => ?_) | refine E.b0 (fun _ _ => ?_) | refine E.bsn (fun _ _ => ?_) | refine E.mk (fun _ _ => ?_) | refine E.bxO (fun _ => ?_) | refine E.al (fun _ => ?_) | refine E.sbO ?_ | refine E.dq ?_ | refine E.ct ?_ | refine E.cf ?_ | refine E.cs (fun hh => ?_) (fun hh => ?_) | refine E.at_block_other rfl ?_)
        all_goals first
          | exact r1 (α := V1) ⟨_, by assumption⟩ (hK := KSub.ownF pk (by simp_all) ks)
          | (exfalso; simp_all; done)
  · have hgf := gok_f hg
    have ha : askL g ⟨k, ⟨l, n⟩⟩ = [] := if_neg (fun h => hg h.1)
    rw [ha]
    refine enter (args := _) Try.func18 rfl Try.ntmps18 (by simp) ?_
    refine E.nl 3 (α := Int) ?_
    repeat' (first | refine E.st ?_ | refine E.cl (h := fun _ w _ => c_i_GraphOk_f w hgf) (k := ?_) | refine E.cl (h := fun _ w _ => c_i_QueryOk w) (k := ?_)  | refine E.q3 ?_ | refine E.q ?_ | refine E.qs ?_ | refine E.q2 ?_ | refine E.q4 ?_ | refine E.tr ?_ | refine E.ap (fun _ _ => ?_) | refine E.b1 (fun _ _ => ?_) | refine E.b0 (fun _ _ => ?_) | refine E.bsn (fun _ _ => ?_) | refine E.mk (fun _ _ => ?_) | refine E.bxO (fun _ => ?_) | refine E.al (fun _ => ?_) | refine E.sbO ?_ | refine E.dq ?_ | refine E.ct ?_ | refine E.cf ?_ | refine E.cs (fun hh => ?_) (fun hh => ?_) | refine E.at_block_other rfl ?_)
    all_goals first
      | exact r1 (α := V1) ⟨_, rfl⟩
      | (exfalso; simp_all; done)
end E
end Go.Proofs.Ytjdagbicjhmeeaa
