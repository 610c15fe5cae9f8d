/- The nodes of which rows are read, as the program says them. -/
import Derived.Test.YtpiiapoafmnhhaaGreatSs
import Derived.Test.YtpiiapoafmnhhaaGreatM13
import Derived.Test.YtpiiapoafmnhhaaGreatUg
namespace Go.Proofs.YtpiiapoafmnhhaaGreat
namespace E
open Go Go.RowKit
set_option linter.unusedSimpArgs false
set_option linter.unusedVariables false
set_option maxHeartbeats 1000000
set_option maxRecDepth 10000
attribute [local irreducible] HC HL HQ HX HO At Y YV Opd Opds KnX Sl Ld Src GV RV Calls Code.wp eptr adr RdF ownF OneX HG LdC
/-- A row of the call's own, or the row that was handed. -/
abbrev QnT (u : Value) (ns O : List Nd) : Type := { p : V1 × List Ck // p.2 = [ownF 32 p.1.1 O] ∨ p.1.1 = u ∧ p.2 = [] ∧ O = ns }
theorem QnT.rd {w0 : World} {u : Value} {ns O : List Nd} (z : QnT u ns O) : RdIn w0 (z.1.2 ++ [ownF 32 u ns]) z.1.1.1 O := by
  rcases z.2 with h | ⟨h1, h2, h3⟩
  · rw [h]; exact RdIn.own List.mem_cons_self
  · rw [h1, h2, h3]; exact RdIn.own List.mem_cons_self
theorem nearP : NearC := near_of graphNear
theorem c_queryNodes {v u : Value} {g : Gr} {k l n : Int} (w : World) (hg : g.ok) (hr : RdF w v g.ns := by exact rdA) (hq : RdF w u g.es := by exact rdA) :
    Calls Tryz.prog 129 #[.agg #[v, u], .agg #[.int .i64 k, .int .i64 l, .int .i64 n]] w (Ret (fun z : QnT v g.ns (orderL g ⟨k, ⟨l, n⟩⟩) => z.1.1.1) (fun z => z.1.2) w) := by
  have o1 := hr.one
  have o2 := hq.one
  by_cases h1 : k = 1
  · subst h1
    have e : orderL g ⟨1, ⟨l, n⟩⟩ = [⟨l, n⟩] := rfl
    rw [e]
    refine enter (args := _) Tryz.func129 rfl Tryz.ntmps129 (by simp) ?_
    repeat' (first | refine E.st ?_ | refine E.b1 (α := Nd) (fun v5 h5 => ?_) | refine E.q3 ?_ | refine E.q ?_ | refine E.qs ?_ | refine E.q2 ?_ | refine E.q4 ?_ | refine E.tr ?_ | refine E.ap (fun _ _ => ?_) | refine E.b1 (fun _ _ => ?_) | refine E.b0 (fun _ _ => ?_) | refine E.bsn (fun _ _ => ?_) | refine E.mk (fun _ _ => ?_) | refine E.bxO (fun _ => ?_) | refine E.al (fun _ => ?_) | refine E.sbO ?_ | refine E.dq ?_ | refine E.ct ?_ | refine E.cf ?_ | refine E.cs (fun hh => ?_) (fun hh => ?_) | refine E.at_block_other rfl ?_)
    all_goals first
      | exact r1 (α := QnT v g.ns [(⟨l, n⟩ : Nd)]) ⟨(⟨v5, h5⟩, [ownF 32 v5 [(⟨l, n⟩ : Nd)]]), Or.inl rfl⟩ (hK := ksv)
      | (exfalso; omega)
  · by_cases h2 : k = 2
    · subst h2
      have e : orderL g ⟨2, ⟨l, n⟩⟩ = waveL g ⟨l, n⟩ := rfl
      rw [e]
      by_cases hm : (⟨l, n⟩ : Nd) ∈ g.ns
      · have hA := AOk.of hg
        have hnl := hg.1.len
        have hp := plc_ok hm
        have hlt := (BI.bfs hA hp.2.2).lt
        have hml := (BI.bfs hA hp.2.2).mlen
        rw [wave_eq hg hm]
        generalize hB : (bfs (adjL g) g.ns.length (plc g.ns ⟨l, n⟩)) = B at *
        obtain ⟨st, mt⟩ := B
        dsimp only at hlt hml ⊢
        have hzl : (zL mt).length = mt.length := by simp [zL]
        have hS : ∀ v w, RdN w v (adjL g) → Calls Tryz.prog 139 #[v, .int .i64 ((plc g.ns ⟨l, n⟩ : Nat) : Int)] w (Ret (fun z : { p : Value × Value // p.1.oneCell' = true ∧ p.2.oneCell' = true } => .tuple #[z.1.1, z.1.2]) (fun z => [ownF 3 z.1.1 st, ownF 3 z.1.2 (zL mt)]) w) := fun v w h => by
          have := c_stepsFrom w hA (by omega) hp.2.2 h
          rw [hB] at this
          exact this
        refine enter (args := _) Tryz.func129 rfl Tryz.ntmps129 (by simp) ?_
        repeat' (first | refine E.st ?_ | refine E.cl (h := fun _ w _ => c_nodePlace_m w hg.1 hm) (k := ?_) | refine E.cm (h := fun w hw => nearP w hg (hr.now hw) (hq.now hw)) (k := fun z => E.wy z.1.2 (fun _ => E.wy z.2.2 (fun _ => ?_))) | refine E.cm (h := fun w hw => hS _ w (RdN.ofK hw)) (k := fun y => E.wy y.2.1 (fun _ => E.wy y.2.2 (fun _ => ?_))) | refine E.mk (α := Nd) (z' := ⟨0, 0⟩) (fun v8 h8 => ?_) | refine E.q3 ?_ | refine E.q ?_ | refine E.qs ?_ | refine E.q2 ?_ | refine E.q4 ?_ | refine E.tr ?_ | refine E.ap (fun _ _ => ?_) | refine E.b1 (fun _ _ => ?_) | refine E.b0 (fun _ _ => ?_) | refine E.bsn (fun _ _ => ?_) | refine E.mk (fun _ _ => ?_) | refine E.bxO (fun _ => ?_) | refine E.al (fun _ => ?_) | refine E.sbO ?_ | refine E.dq ?_ | refine E.ct ?_ | refine E.cf ?_ | refine E.cs (fun hh => ?_) (fun hh => ?_) | refine E.at_block_other rfl ?_)
        all_goals first
          | (exfalso; omega)
          | skip
        refine lq (fun j : Nat => j ≤ mt.length) (fun j => [(38, .pl (.int .i64 (j : Int)))]) (fun j => [ownF 32 v8 (ndL g.ns (mt.take j) ++ List.replicate (mt.length - j) (⟨0, 0⟩ : Nd))]) (fun j => mt.length - j) 0 (Nat.zero_le _) (fun j hj => ?_) (hK := by exact Spl.ownF pk (by simp [ndL, hzl]) (Spl.nil _))
        have hnd : (ndL g.ns (mt.take j)).length = j := by rw [ndL_len, List.length_take]; omega
        rcases Nat.lt_or_ge j mt.length with hjlt | hjge
        · obtain ⟨i, hi⟩ := get_lt hjlt
          have hil := hlt i (List.mem_of_getElem? hi)
          obtain ⟨⟨xl, xn⟩, hx⟩ := get_lt hil
          have hzi : (zL mt)[j]? = some (i : Int) := by simp [zL, hi]
          have hL : (ndL g.ns (mt.take j) ++ List.replicate (mt.length - j) (⟨0, 0⟩ : Nd)).length = mt.length := by rw [List.length_append, hnd, List.length_replicate]; omega
          have hz0 : (ndL g.ns (mt.take j) ++ List.replicate (mt.length - j) (⟨0, 0⟩ : Nd))[j]? = some ⟨0, 0⟩ := by
            rw [List.getElem?_append_right (by omega), hnd, Nat.sub_self, List.getElem?_replicate, if_pos (by omega)]
          have hset : (ndL g.ns (mt.take j) ++ List.replicate (mt.length - j) (⟨0, 0⟩ : Nd)).set j ⟨xl, xn⟩ = ndL g.ns (mt.take (j + 1)) ++ List.replicate (mt.length - (j + 1)) (⟨0, 0⟩ : Nd) := by
            rw [List.set_append_right _ _ (by omega), hnd, Nat.sub_self, show mt.length - j = (mt.length - (j + 1)) + 1 from by omega, List.replicate_succ, List.set_cons_zero]
            unfold ndL
            rw [List.take_add_one, hi, List.map_append, List.append_assoc]
            congr 1
            simp [List.getD_eq_getElem?_getD, hx]
          repeat' (first | refine E.st ?_ | refine E.q3 ?_ | refine E.q ?_ | refine E.qs ?_ | refine E.q2 ?_ | refine E.q4 ?_ | refine E.tr ?_ | refine E.ap (fun _ _ => ?_) | refine E.b1 (fun _ _ => ?_) | refine E.b0 (fun _ _ => ?_) | refine E.bsn (fun _ _ => ?_) | refine E.mk (fun _ _ => ?_) | refine E.bxO (fun _ => ?_) | refine E.al (fun _ => ?_) | refine E.sbO ?_ | refine E.dq ?_ | refine E.ct ?_ | refine E.cf ?_ | refine E.cs (fun hh => ?_) (fun hh => ?_) | refine E.at_block_other rfl ?_)
          exact rd (j + 1) hjlt (hK := KSub.ownF pk hset ksv)
        · rw [List.take_of_length_le hjge, show mt.length - j = 0 from by omega, List.replicate_zero, List.append_nil]
          repeat' (first | refine E.st ?_ | refine E.q3 ?_ | refine E.q ?_ | refine E.qs ?_ | refine E.q2 ?_ | refine E.q4 ?_ | refine E.tr ?_ | refine E.ap (fun _ _ => ?_) | refine E.b1 (fun _ _ => ?_) | refine E.b0 (fun _ _ => ?_) | refine E.bsn (fun _ _ => ?_) | refine E.mk (fun _ _ => ?_) | refine E.bxO (fun _ => ?_) | refine E.al (fun _ => ?_) | refine E.sbO ?_ | refine E.dq ?_ | refine E.ct ?_ | refine E.cf ?_ | refine E.cs (fun hh => ?_) (fun hh => ?_) | refine E.at_block_other rfl ?_)
          exact r1 (α := QnT v g.ns (ndL g.ns mt)) ⟨(⟨v8, h8⟩, [ownF 32 v8 (ndL g.ns mt)]), Or.inl rfl⟩ (hK := ksv)
      · have hp : pos g.ns ⟨l, n⟩ < 0 := by rw [pos_none hm]; omega
        have e2 : waveL g ⟨l, n⟩ = [] := if_neg hm
        rw [e2]
        refine enter (args := _) Tryz.func129 rfl Tryz.ntmps129 (by simp) ?_
        refine E.nl 32 (α := Nd) ?_
        repeat' (first | refine E.st ?_ | refine E.cl (h := fun _ w _ => c_nodePlace w hg.1) (k := ?_)  | refine E.q3 ?_ | refine E.q ?_ | refine E.qs ?_ | refine E.q2 ?_ | refine E.q4 ?_ | refine E.tr ?_ | refine E.ap (fun _ _ => ?_) | refine E.b1 (fun _ _ => ?_) | refine E.b0 (fun _ _ => ?_) | refine E.bsn (fun _ _ => ?_) | refine E.mk (fun _ _ => ?_) | refine E.bxO (fun _ => ?_) | refine E.al (fun _ => ?_) | refine E.sbO ?_ | refine E.dq ?_ | refine E.ct ?_ | refine E.cf ?_ | refine E.cs (fun hh => ?_) (fun hh => ?_) | refine E.at_block_other rfl ?_)
        all_goals first
          | exact r1 (α := QnT v g.ns []) ⟨(⟨.slice none 0 0, rfl⟩, [ownF 32 (.slice none 0 0) ([] : List Nd)]), Or.inl rfl⟩ (hK := ksv)
          | (exfalso; omega)
    · have e : orderL g ⟨k, ⟨l, n⟩⟩ = g.ns := by unfold orderL; rw [if_neg h1, if_neg h2]
      rw [e]
      refine enter (args := _) Tryz.func129 rfl Tryz.ntmps129 (by simp) ?_
      repeat' (first | refine E.st ?_ | refine E.q3 ?_ | refine E.q ?_ | refine E.qs ?_ | refine E.q2 ?_ | refine E.q4 ?_ | refine E.tr ?_ | refine E.ap (fun _ _ => ?_) | refine E.b1 (fun _ _ => ?_) | refine E.b0 (fun _ _ => ?_) | refine E.bsn (fun _ _ => ?_) | refine E.mk (fun _ _ => ?_) | refine E.bxO (fun _ => ?_) | refine E.al (fun _ => ?_) | refine E.sbO ?_ | refine E.dq ?_ | refine E.ct ?_ | refine E.cf ?_ | refine E.cs (fun hh => ?_) (fun hh => ?_) | refine E.at_block_other rfl ?_)
      all_goals first
        | exact r1 (α := QnT v g.ns g.ns) ⟨(⟨v, o1⟩, []), Or.inr ⟨rfl, rfl, rfl⟩⟩ (hK := ksv)
        | (exfalso; omega)
end E
end Go.Proofs.YtpiiapoafmnhhaaGreat
