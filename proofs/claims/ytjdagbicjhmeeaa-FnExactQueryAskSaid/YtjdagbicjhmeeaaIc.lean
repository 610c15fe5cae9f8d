/- The program's walks over the rows of places. -/
import Derived.Test.YtjdagbicjhmeeaaIb
namespace Go.Proofs.Ytjdagbicjhmeeaa
namespace E
open Go Go.RowKit
set_option linter.unusedSimpArgs false
set_option linter.unusedVariables false
set_option maxHeartbeats 1000000
set_option maxRecDepth 10000
attribute [local irreducible] HC HL HQ HX HO At Y YV Opd Opds KnX Sl Ld Src GV RV Calls Code.wp eptr adr RdF ownF OneX HG LdC
/-- What is asked of the program's nearPlaces. -/
def NearC : Prop := ∀ {v u : Value} {g : Gr} (w : World), g.ok → RdF w v g.ns → RdF w u g.es → Calls Try.prog 69 #[.agg #[v, u]] w (Ret (fun z : V1 × { xs : List Sv // Match xs (adjL g) } => z.1.1) (fun z => ownF 54 z.1.1 z.2.1 :: inn 3 z.2.1 (adjL g)) w)
theorem c_i_GraphOk_t {v u : Value} {ns : List Nd} {es : List Eg} (w : World) (h : gok ns es = true) (hr : RdF w v ns := by exact rdA) (hq : RdF w u es := by exact rdA) : Calls Try.prog 50 #[.agg #[v, u]] w (Ret (fun _ : Unit => .bool true) (fun _ => []) w) := by
  have := c_i_GraphOk w hr hq
  rwa [h] at this
theorem c_i_GraphOk_f {v u : Value} {ns : List Nd} {es : List Eg} (w : World) (h : gok ns es = false) (hr : RdF w v ns := by exact rdA) (hq : RdF w u es := by exact rdA) : Calls Try.prog 50 #[.agg #[v, u]] w (Ret (fun _ : Unit => .bool false) (fun _ => []) w) := by
  have := c_i_GraphOk w hr hq
  rwa [h] at this
theorem c_i_WalkDist (hN : NearC) {v u : Value} {g : Gr} {l n : Int} (w : World) (hr : RdF w v g.ns := by exact rdA) (hq : RdF w u g.es := by exact rdA) :
    Calls Try.prog 52 #[.agg #[v, u], .agg #[.int .i64 l, .int .i64 n]] w (Ret (fun z : V1 => z.1) (fun z => [ownF 3 z.1 (if g.ok then distL g ⟨l, n⟩ else [])]) w) := by
  have o1 := hr.one
  have o2 := hq.one
  by_cases hg : g.ok
  · have hgt := gok_t hg
    have hnl := hg.1.len
    rw [if_pos hg]
    by_cases hm : (⟨l, n⟩ : Nd) ∈ g.ns
    · have hA := AOk.of hg
      have hp := plc_ok hm
      have hd : distL g ⟨l, n⟩ = (bfs (adjL g) g.ns.length (plc g.ns ⟨l, n⟩)).st := if_pos hm
      rw [hd]
      refine enter (args := _) Try.func52 rfl Try.ntmps52 (by simp) ?_
      repeat' (first | refine E.st ?_ | refine E.cl (h := fun _ w _ => c_i_GraphOk_t w hgt) (k := ?_) | refine E.cl (h := fun _ w _ => c_nodePlace_m w hg.1 hm) (k := ?_) | refine E.cm (h := fun w hw => hN w hg (hr.now hw) (hq.now hw)) (k := fun z => E.wy z.1.2 (fun _ => E.wy z.2.2 (fun _ => ?_))) | refine E.cm (h := fun w hw => c_stepsFrom w hA (by omega) hp.2.2 (RdN.ofK hw)) (k := fun y => E.wy y.2.1 (fun _ => E.wy y.2.2 (fun _ => ?_))) | refine E.q3 ?_ | refine E.q ?_ | refine E.qs ?_ | refine E.q2 ?_ | refine E.q4 ?_ | refine E.tr ?_ | refine E.ap (fun _ _ => ?_) | refine E.b1 (fun _ _ => ?_) | refine E.b0 (fun _ _ => ?_) | refine E.bsn (fun _ _ => ?_) | refine E.mk (fun _ _ => ?_) | refine E.bxO (fun _ => ?_) | refine E.al (fun _ => ?_) | refine E.sbO ?_ | refine E.dq ?_ | refine E.ct ?_ | refine E.cf ?_ | refine E.cs (fun hh => ?_) (fun hh => ?_) | refine E.at_block_other rfl ?_)
      exact r1 (α := V1) ⟨y.1.1, y.2.1⟩
    · have hp : pos g.ns ⟨l, n⟩ < 0 := by rw [pos_none hm]; omega
      have hd : distL g ⟨l, n⟩ = [] := if_neg hm
      rw [hd]
      refine enter (args := _) Try.func52 rfl Try.ntmps52 (by simp) ?_
      refine E.nl 3 (α := Int) ?_
      repeat' (first | refine E.st ?_ | refine E.cl (h := fun _ w _ => c_i_GraphOk_t w hgt) (k := ?_) | refine E.cl (h := fun _ w _ => c_nodePlace w hg.1) (k := ?_)  | refine E.q3 ?_ | refine E.q ?_ | refine E.qs ?_ | refine E.q2 ?_ | refine E.q4 ?_ | refine E.tr ?_ | refine E.ap (fun _ _ => ?_) | refine E.b1 (fun _ _ => ?_) | refine E.b0 (fun _ _ => ?_) | refine E.bsn (fun _ _ => ?_) | refine E.mk (fun _ _ => ?_) | refine E.bxO (fun _ => ?_) | refine E.al (fun _ => ?_) | refine E.sbO ?_ | refine E.dq ?_ | refine E.ct ?_ | refine E.cf ?_ | refine E.cs (fun hh => ?_) (fun hh => ?_) | refine E.at_block_other rfl ?_)
      exact r1 (α := V1) ⟨_, rfl⟩
  · have hgf := gok_f hg
    rw [if_neg hg]
    refine enter (args := _) Try.func52 rfl Try.ntmps52 (by simp) ?_
    refine E.nl 3 (α := Int) ?_
    repeat' (first | refine E.st ?_ | refine E.cl (h := fun _ w _ => c_i_GraphOk_f w hgf) (k := ?_)  | refine E.q3 ?_ | refine E.q ?_ | refine E.qs ?_ | refine E.q2 ?_ | refine E.q4 ?_ | refine E.tr ?_ | refine E.ap (fun _ _ => ?_) | refine E.b1 (fun _ _ => ?_) | refine E.b0 (fun _ _ => ?_) | refine E.bsn (fun _ _ => ?_) | refine E.mk (fun _ _ => ?_) | refine E.bxO (fun _ => ?_) | refine E.al (fun _ => ?_) | refine E.sbO ?_ | refine E.dq ?_ | refine E.ct ?_ | refine E.cf ?_ | refine E.cs (fun hh => ?_) (fun hh => ?_) | refine E.at_block_other rfl ?_)
    exact r1 (α := V1) ⟨_, rfl⟩
theorem inn_in {w0 : World} {K : List Ck} {xs : List Sv} {adj : List (List Nat)} (hs : InK (inn 3 xs adj) K := by exact ink) : ∀ (i : Nat) x r, xs[i]? = some x → adj[i]? = some r → RdIn w0 K (.slice x.a x.n x.c) (zL r) := fun i x r hx hr => by
  refine RdIn.own (e := 3) (hs.mem _ ?_)
  unfold inn
  refine List.mem_map.2 ⟨(x, r), ?_, rfl⟩
  exact List.mem_of_getElem? (i := i) (by simp [List.getElem?_zip_eq_some, hx, hr])
theorem core_end {n : Nat} {adj : List (List Nat)} {k : Nat} {left : List Bool} {out : List Int} (h : trues (peel adj k left) = 0) : coreG adj (n - k) k left out = out := by
  cases hf : n - k with
  | zero => rfl
  | succ f =>
    change coreG adj f (k + 1) (peel adj k left) (coreM (peel adj k left) out k) = out
    rw [coreG_none _ _ _ _ h, coreM_none h]
theorem c_i_WalkCore (hN : NearC) {v u : Value} {g : Gr} (w : World) (hr : RdF w v g.ns := by exact rdA) (hq : RdF w u g.es := by exact rdA) :
    Calls Try.prog 53 #[.agg #[v, u]] w (Ret (fun z : V1 => z.1) (fun z => [ownF 3 z.1 (if g.ok then coreL (adjL g) g.ns.length else [])]) w) := by
  have o1 := hr.one
  have o2 := hq.one
  by_cases hg : g.ok
  · have hgt := gok_t hg
    have hnl := hg.1.len
    have hA := AOk.of hg
    rw [if_pos hg]
    by_cases h0 : g.ns.length = 0
    · have hc0 : coreL (adjL g) g.ns.length = [] := by rw [h0]; rfl
      rw [hc0]
      refine enter (args := _) Try.func53 rfl Try.ntmps53 (by simp) ?_
      refine E.nl 3 (α := Int) ?_
      repeat' (first | refine E.st ?_ | refine E.cl (h := fun _ w _ => c_i_GraphOk_t w hgt) (k := ?_)  | refine E.q3 ?_ | refine E.q ?_ | refine E.qs ?_ | refine E.q2 ?_ | refine E.q4 ?_ | refine E.tr ?_ | refine E.ap (fun _ _ => ?_) | refine E.b1 (fun _ _ => ?_) | refine E.b0 (fun _ _ => ?_) | refine E.bsn (fun _ _ => ?_) | refine E.mk (fun _ _ => ?_) | refine E.bxO (fun _ => ?_) | refine E.al (fun _ => ?_) | refine E.sbO ?_ | refine E.dq ?_ | refine E.ct ?_ | refine E.cf ?_ | refine E.cs (fun hh => ?_) (fun hh => ?_) | refine E.at_block_other rfl ?_)
      all_goals first
        | exact r1 (α := V1) ⟨_, rfl⟩
        | (exfalso; simp_all; done)
        | (exfalso; omega)
    · refine enter (args := _) Try.func53 rfl Try.ntmps53 (by simp) ?_
      repeat' (first | refine E.st ?_ | refine E.cl (h := fun _ w _ => c_i_GraphOk_t w hgt) (k := ?_) | refine E.cm (h := fun w hw => hN w hg (hr.now hw) (hq.now hw)) (k := fun z => E.wy z.1.2 (fun _ => E.wy z.2.2 (fun hM => E.wy (show z.2.1.length = g.ns.length from z.2.2.1.trans hA.1) (fun hzl => ?_)))) | refine E.mk (α := Int) (z' := 0) (fun v4 h4 => ?_) | refine E.mk (α := Bool) (z' := false) (fun v5 h5 => ?_) | refine E.q3 ?_ | refine E.q ?_ | refine E.qs ?_ | refine E.q2 ?_ | refine E.q4 ?_ | refine E.tr ?_ | refine E.ap (fun _ _ => ?_) | refine E.b1 (fun _ _ => ?_) | refine E.b0 (fun _ _ => ?_) | refine E.bsn (fun _ _ => ?_) | refine E.mk (fun _ _ => ?_) | refine E.bxO (fun _ => ?_) | refine E.al (fun _ => ?_) | refine E.sbO ?_ | refine E.dq ?_ | refine E.ct ?_ | refine E.cf ?_ | refine E.cs (fun hh => ?_) (fun hh => ?_) | refine E.at_block_other rfl ?_)
      · exfalso
        simp only [false_or] at hh
        omega
      have hl5 : (List.replicate z.2.1.length false).length = z.2.1.length := List.length_replicate
      refine lq (fun j : Nat => j ≤ z.2.1.length) (fun j => [(28, .pl (.int .i64 (j : Int)))]) (fun j => [ownF 4 v5 (List.replicate j true ++ List.replicate (z.2.1.length - j) false)]) (fun j => z.2.1.length - j) 0 (Nat.zero_le _) (fun j hj => ?_) (hK := Spl.ownF pk (by simp) (Spl.nil _))
      have hl2 : (List.replicate j true ++ List.replicate (z.2.1.length - j) false).length = z.2.1.length := by simp; omega
      rcases Nat.lt_or_ge j z.2.1.length with hlt | hge
      · have hgt2 : (List.replicate j true ++ List.replicate (z.2.1.length - j) false)[j]? = some false := by
          rw [List.getElem?_append_right (by simp), List.getElem?_replicate]
          simp; omega
        have hset : (List.replicate j true ++ List.replicate (z.2.1.length - j) false).set j true = List.replicate (j + 1) true ++ List.replicate (z.2.1.length - (j + 1)) false := by
          rw [List.set_append_right _ _ (by simp), List.length_replicate, Nat.sub_self, show z.2.1.length - j = (z.2.1.length - (j + 1)) + 1 from by omega, List.replicate_succ, List.set_cons_zero, List.replicate_succ', List.append_assoc]
          rfl
        repeat' (first | refine E.st ?_ | refine E.q3 ?_ | refine E.q ?_ | refine E.qs ?_ | refine E.q2 ?_ | refine E.q4 ?_ | refine E.tr ?_ | refine E.ap (fun _ _ => ?_) | refine E.b1 (fun _ _ => ?_) | refine E.b0 (fun _ _ => ?_) | refine E.bsn (fun _ _ => ?_) | refine E.mk (fun _ _ => ?_) | refine E.bxO (fun _ => ?_) | refine E.al (fun _ => ?_) | refine E.sbO ?_ | refine E.dq ?_ | refine E.ct ?_ | refine E.cf ?_ | refine E.cs (fun hh => ?_) (fun hh => ?_) | refine E.at_block_other rfl ?_)
        exact rd (j + 1) hlt (hK := KSub.ownF pk hset ks)
      have hje : j = z.2.1.length := by omega
      subst hje
      simp only [Nat.sub_self, List.replicate_zero, List.append_nil]
      repeat' (first | refine E.st ?_ | refine E.q3 ?_ | refine E.q ?_ | refine E.qs ?_ | refine E.q2 ?_ | refine E.q4 ?_ | refine E.tr ?_ | refine E.ap (fun _ _ => ?_) | refine E.b1 (fun _ _ => ?_) | refine E.b0 (fun _ _ => ?_) | refine E.bsn (fun _ _ => ?_) | refine E.mk (fun _ _ => ?_) | refine E.bxO (fun _ => ?_) | refine E.al (fun _ => ?_) | refine E.sbO ?_ | refine E.dq ?_ | refine E.ct ?_ | refine E.cf ?_ | refine E.cs (fun hh => ?_) (fun hh => ?_) | refine E.at_block_other rfl ?_)
      refine lq (fun y : Nat × List Bool × List Int => (1 ≤ y.1 ∧ y.1 ≤ 1000 ∧ y.2.1.length = g.ns.length ∧ y.2.2.length = g.ns.length) ∧ coreG (adjL g) (g.ns.length - y.1) y.1 y.2.1 y.2.2 = coreL (adjL g) g.ns.length) (fun y => [(7, .pl (.int .i64 (y.1 : Int)))]) (fun y => [ownF 3 v4 y.2.2, ownF 4 v5 y.2.1]) (fun y => g.ns.length - y.1) (1, List.replicate g.ns.length true, List.replicate g.ns.length 0) ⟨⟨Nat.le_refl _, by omega, by simp, by simp⟩, rfl⟩ (fun y hy => ?_) (hK := Spl.ownF pk (by rw [hzl]) (Spl.ownF pk (by rw [hzl]) (Spl.nil _)))
      obtain ⟨k, left, out⟩ := y
      obtain ⟨⟨hk1, hk2, hll, hol⟩, hco⟩ := hy
      dsimp only at hk1 hk2 hll hol hco ⊢
      have hpl := peel_len (adj := adjL g) (k := k) (left := left)
      have hpn := fun h => peel_n hA (k := k) h hll
      have hce := core_end (n := g.ns.length) (adj := adjL g) (k := k) (left := left) (out := out)
      repeat' (first | refine E.st ?_ | refine E.ckq (h := fun w hw => c_i_peel (n := g.ns.length) (k := k) (left := left) w hw hA (by omega) hll hk2 (RdIn.own mm) hzl inn_in) (k := fun _ => ?_) | refine E.q3 ?_ | refine E.q ?_ | refine E.qs ?_ | refine E.q2 ?_ | refine E.q4 ?_ | refine E.tr ?_ | refine E.ap (fun _ _ => ?_) | refine E.b1 (fun _ _ => ?_) | refine E.b0 (fun _ _ => ?_) | refine E.bsn (fun _ _ => ?_) | refine E.mk (fun _ _ => ?_) | refine E.bxO (fun _ => ?_) | refine E.al (fun _ => ?_) | refine E.sbO ?_ | refine E.dq ?_ | refine E.ct ?_ | refine E.cf ?_ | refine E.cs (fun hh => ?_) (fun hh => ?_) | refine E.at_block_other rfl ?_)
      · have hkn : k < g.ns.length := by
          rcases Nat.lt_or_ge k g.ns.length with h | h
          · exact h
          · have := hpn h
            omega
        have hco2 : coreG (adjL g) (g.ns.length - (k + 1)) (k + 1) (peel (adjL g) k left) (coreM (peel (adjL g) k left) out k) = coreL (adjL g) g.ns.length := by
          rw [← hco, show g.ns.length - k = (g.ns.length - (k + 1)) + 1 from by omega]
          rfl
        obtain ⟨S, hS0, hSs, hSl, hSe⟩ := core_walk (peel (adjL g) k left) out k
        clear hce hpn
        generalize peel (adjL g) k left = left2 at *
        refine lq (fun j : Nat => j ≤ out.length) (fun j => [(43, .pl (.int .i64 (j : Int)))]) (fun j => [ownF 3 v4 (S j)]) (fun j => out.length - j) 0 (Nat.zero_le _) (fun j hj => ?_) (hK := Spl.ownF pk hS0.symm (Spl.nil _))
        have hlj := hSl j
        rcases Nat.lt_or_ge j out.length with hlt3 | hge3
        · have hbj : left2[j]? = some (left2.getD j false) := getD_at (by omega)
          have hoj : (S j)[j]? = some ((S j).getD j 0) := getD_at (by omega)
          have hst := hSs j
          generalize left2.getD j false = c at hbj hst
          repeat' (first | refine E.st ?_ | refine E.q3 ?_ | refine E.q ?_ | refine E.qs ?_ | refine E.q2 ?_ | refine E.q4 ?_ | refine E.tr ?_ | refine E.ap (fun _ _ => ?_) | refine E.b1 (fun _ _ => ?_) | refine E.b0 (fun _ _ => ?_) | refine E.bsn (fun _ _ => ?_) | refine E.mk (fun _ _ => ?_) | refine E.bxO (fun _ => ?_) | refine E.al (fun _ => ?_) | refine E.sbO ?_ | refine E.dq ?_ | refine E.ct ?_ | refine E.cf ?_ | refine E.cs (fun hh => ?_) (fun hh => ?_) | refine E.at_block_other rfl ?_)
          · rw [if_pos (by assumption)] at hst
            exact rd (j + 1) hlt3 (hK := KSub.ownF pk hst.symm ks)
          · rw [if_neg (by simp [*])] at hst
            exact rd (j + 1) hlt3 (hK := KSub.ownF pk hst.symm ks)
        · repeat' (first | refine E.st ?_ | refine E.q3 ?_ | refine E.q ?_ | refine E.qs ?_ | refine E.q2 ?_ | refine E.q4 ?_ | refine E.tr ?_ | refine E.ap (fun _ _ => ?_) | refine E.b1 (fun _ _ => ?_) | refine E.b0 (fun _ _ => ?_) | refine E.bsn (fun _ _ => ?_) | refine E.mk (fun _ _ => ?_) | refine E.bxO (fun _ => ?_) | refine E.al (fun _ => ?_) | refine E.sbO ?_ | refine E.dq ?_ | refine E.ct ?_ | refine E.cf ?_ | refine E.cs (fun hh => ?_) (fun hh => ?_) | refine E.at_block_other rfl ?_)
          have hje : j = out.length := by omega
          subst hje
          refine rd (α := Nat × List Bool × List Int) (k + 1, left2, S out.length) ⟨⟨by omega, by dsimp only; omega, by dsimp only; omega, by dsimp only; omega⟩, by rw [hSe]; exact hco2⟩
      · have h00 : trues (peel (adjL g) k left) = 0 := by omega
        exact r1 (α := V1) ⟨v4, h4⟩ (hK := KSub.ownF pk (by rw [← hco, hce h00]) (KSub.nil _))
  · have hgf := gok_f hg
    rw [if_neg hg]
    refine enter (args := _) Try.func53 rfl Try.ntmps53 (by simp) ?_
    refine E.nl 3 (α := Int) ?_
    repeat' (first | refine E.st ?_ | refine E.cl (h := fun _ w _ => c_i_GraphOk_f w hgf) (k := ?_)  | refine E.q3 ?_ | refine E.q ?_ | refine E.qs ?_ | refine E.q2 ?_ | refine E.q4 ?_ | refine E.tr ?_ | refine E.ap (fun _ _ => ?_) | refine E.b1 (fun _ _ => ?_) | refine E.b0 (fun _ _ => ?_) | refine E.bsn (fun _ _ => ?_) | refine E.mk (fun _ _ => ?_) | refine E.bxO (fun _ => ?_) | refine E.al (fun _ => ?_) | refine E.sbO ?_ | refine E.dq ?_ | refine E.ct ?_ | refine E.cf ?_ | refine E.cs (fun hh => ?_) (fun hh => ?_) | refine E.at_block_other rfl ?_)
    all_goals first
      | exact r1 (α := V1) ⟨_, rfl⟩
      | exact hh.1.elim
end E
end Go.Proofs.Ytjdagbicjhmeeaa
