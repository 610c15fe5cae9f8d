/- The law of QueryAsk is walked. -/
import Derived.Test.YtjdagbicjhmeeaaSs
import Derived.Test.YtjdagbicjhmeeaaUc
namespace Go.Proofs.Ytjdagbicjhmeeaa
namespace E
open Go Go.RowKit
set_option linter.unusedSimpArgs false
set_option linter.unusedVariables false
set_option maxHeartbeats 1000000
set_option maxRecDepth 10000
attribute [local irreducible] HC HL HQ HX HO At Y YV Opd Opds KnX Sl Ld Src GV RV Calls Code.wp eptr adr RdF ownF OneX HG LdC
theorem ask_len (g : Gr) (q : Qu) : (askL g q).length ≤ 1000 := by
  unfold askL
  split
  · rename_i h
    have hn := h.1.1.len
    have he := h.1.2.len
    have h1 := near_len g.es q.n
    unfold askG
    split
    · simp; omega
    · split
      · by_cases hm : q.n ∈ g.ns
        · rw [distL_len h.1 hm]; omega
        · unfold distL; rw [if_neg hm]; simp
      · split
        · rw [coreL_len]; omega
        · simp
  · simp
theorem c_markGraph {w0 : World} {K : List Ck} {v u : Value} {ns : List Nd} {es : List Eg} {k : Int} (w : World) (hw : KOk w0 (K ++ [ownF 29 v ns, ownF 31 u es]) w) (hk : 0 ≤ k ∧ k ≤ 1000000 := by omega) (h1 : ns.length ≤ 1048576 := by omega) (h2 : es.length ≤ 1048576 := by omega) :
    Calls Try.prog 21 #[.agg #[v, u], .int .i64 k] w (RetK (fun _ : Unit => .int .i64 (k + ((ns.length * 2 : Nat) : Int) + ((es.length * 5 : Nat) : Int))) (fun _ => ownF 29 v (marks E.Nd ns.length k) :: ownF 31 u (marks E.Eg es.length (k + ((ns.length * 2 : Nat) : Int))) :: K) w0) := by
  have o1 := (RdF.ofK hw : RdF w v ns).one
  have o2 := (RdF.ofK hw : RdF w u es).one
  refine enterK (args := _) hw Try.func21 rfl Try.ntmps21 (by simp) ?_
  repeat' (first | refine E.st ?_ | refine E.ckp (h := fun K'' w hw => c_markNodeS (xs := ns) w hw) (k := fun _ => ?_) | refine E.ckp (h := fun K'' w hw => c_markEdgeS (xs := es) w hw) (k := fun _ => ?_) | refine E.q3 ?_ | refine E.q ?_ | refine E.qs ?_ | refine E.q2 ?_ | refine E.q4 ?_ | refine E.tr ?_ | refine E.ap (fun _ _ => ?_) | refine E.b1 (fun _ _ => ?_) | refine E.b0 (fun _ _ => ?_) | refine E.bsn (fun _ _ => ?_) | refine E.mk (fun _ _ => ?_) | refine E.bxO (fun _ => ?_) | refine E.al (fun _ => ?_) | refine E.sbO ?_ | refine E.dq ?_ | refine E.ct ?_ | refine E.cf ?_ | refine E.cs (fun hh => ?_) (fun hh => ?_) | refine E.at_block_other rfl ?_)
  exact r1K () (hK := KSub.ownF pk rfl (KSub.ownF pk rfl (by simp only [List.append_nil]; exact ks)))
theorem same_Int {v u : Value} {xs : List Int} (w : World) (hr : RdF w v xs := by exact rdA) (hq : RdF w u xs := by exact rdA) : Calls Try.prog 19 #[v, u] w (Ret (fun _ : Unit => .bool true) (fun _ => []) w) := by
  have := c_eqIntS w hr hq
  rwa [decide_eq_true rfl] at this
theorem same_Graph {v u v' u' : Value} {ns : List Nd} {es : List Eg} (w : World) (hr : RdF w v ns := by exact rdA) (hq : RdF w u es := by exact rdA) (hr' : RdF w v' ns := by exact rdA) (hq' : RdF w u' es := by exact rdA) : Calls Try.prog 20 #[.agg #[v, u], .agg #[v', u']] w (Ret (fun _ : Unit => .bool true) (fun _ => []) w) := by
  have := c_eqGraph w hr hq hr' hq'
  rwa [decide_eq_true ⟨rfl, rfl⟩] at this
theorem c_i_Ask {v u : Value} {g : Gr} {k l n : Int} (w : World) (hr : RdF w v g.ns := by exact rdA) (hq : RdF w u g.es := by exact rdA) :
    Calls Try.prog 18 #[.agg #[v, u], .agg #[.int .i64 k, .int .i64 l, .int .i64 n]] w (Ret (fun z : V1 => z.1) (fun z => [ownF 3 z.1 (askL g ⟨k, ⟨l, n⟩⟩)]) w) := c_i_QueryAsk graphNear (near_of graphNear) w hr hq
theorem c_law_QueryAsk {v u : Value} {g : Gr} {k l n : Int} (w : World) (hr : RdF w v g.ns) (hq : RdF w u g.es) : Calls Try.prog 5 #[.agg #[v, u], .agg #[.int .i64 k, .int .i64 l, .int .i64 n]] w (Ret (fun _ : Unit => .bool true) (fun _ => []) w) := by
  have o1 := hr.one
  have o2 := hq.one
  have hal := ask_len g ⟨k, ⟨l, n⟩⟩
  by_cases h : (g.ns.length : Int) + g.es.length ≤ 1048576
  · have h1 : g.ns.length ≤ 1048576 := by omega
    have h2 : g.es.length ≤ 1048576 := by omega
    refine enter (args := _) Try.func5 rfl Try.ntmps5 (by simp) ?_
    repeat' (first | refine E.st ?_ | refine E.dxa [0, 1, 2, 3, 4] ?_ | refine E.dx [0, 2, 1, 3, 4, 5] ?_ | refine E.dx [0, 2, 1, 3, 4, 5] ?_ | refine E.cl (h := fun _ w _ => c_szGraph_yes w) (k := ?_) | refine E.cl (h := fun _ w _ => c_toQuery w) (k := ?_) | refine E.cm (h := fun w _ => c_toGraph w (ns := g.ns) (es := g.es)) (k := fun z0 => ?_) | refine E.cm (h := fun w hw => c_s_QueryAsk (g := g) w) (k := fun z => E.wy z.2 (fun _ => ?_)) | refine E.cm (h := fun w hw => c_i_Ask (g := g) w) (k := fun z => E.wy z.2 (fun _ => ?_)) | refine E.cl (h := fun _ w hw => same_Int (xs := askL g ⟨k, ⟨l, n⟩⟩) w) (k := ?_) | refine E.cl (h := fun _ w hw => same_Graph (ns := g.ns) (es := g.es) w) (k := ?_) | refine E.ckl _ (h := fun w hw => c_markGraph (ns := g.ns) (es := g.es) w hw) (k := fun _ => ?_) | refine E.ckp (h := fun K'' w hw => c_markIntS (xs := askL g ⟨k, ⟨l, n⟩⟩) w hw) (k := fun _ => ?_) | refine E.cl (h := fun _ w hw => c_heldIntS (n := (askL g ⟨k, ⟨l, n⟩⟩).length) w) (k := ?_) | refine E.q3 ?_ | refine E.q ?_ | refine E.qs ?_ | refine E.q2 ?_ | refine E.q4 ?_ | refine E.tr ?_ | refine E.ap (fun _ _ => ?_) | refine E.b1 (fun _ _ => ?_) | refine E.b0 (fun _ _ => ?_) | refine E.bsn (fun _ _ => ?_) | refine E.mk (fun _ _ => ?_) | refine E.bxO (fun _ => ?_) | refine E.al (fun _ => ?_) | refine E.sbO ?_ | refine E.dq ?_ | refine E.ct ?_ | refine E.cf ?_ | refine E.cs (fun hh => ?_) (fun hh => ?_) | refine E.at_block_other rfl ?_)
    all_goals first
      | exact rb
      | (exfalso; simp only [Bool.not_true, Bool.or_false, decide_eq_true_eq, not_true_eq_false, Bool.false_eq_true, or_false] at *; omega)
      | skip
  · refine enter (args := _) Try.func5 rfl Try.ntmps5 (by simp) ?_
    repeat' (first | refine E.st ?_ | refine E.cl (h := fun _ w _ => c_szGraph_no w) (k := ?_)  | refine E.q ?_ | refine E.qs ?_ | refine E.q2 ?_ | refine E.tr ?_ | refine E.ap (fun _ _ => ?_) | refine E.b1 (fun _ _ => ?_) | refine E.b0 (fun _ _ => ?_) | refine E.bsn (fun _ _ => ?_) | refine E.mk (fun _ _ => ?_) | refine E.bx (fun _ => ?_) | refine E.al (fun _ => ?_) | refine E.sb ?_ | refine E.dq ?_ | refine E.ct ?_ | refine E.cf ?_ | refine E.cs (fun hh => ?_) (fun hh => ?_) | refine E.at_block_other rfl ?_)
    exact rb
end E
end Go.Proofs.Ytjdagbicjhmeeaa
