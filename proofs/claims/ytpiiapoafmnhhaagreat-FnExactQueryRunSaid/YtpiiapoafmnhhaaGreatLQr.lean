/- The law of QueryRun is walked. -/
import Derived.Test.YtpiiapoafmnhhaaGreatZm
import Derived.Test.YtpiiapoafmnhhaaGreatUh
import Derived.Test.YtpiiapoafmnhhaaGreatM17
namespace Go.Proofs.YtpiiapoafmnhhaaGreat
namespace E
open Go Go.RowKit
set_option linter.unusedSimpArgs false
set_option linter.unusedVariables false
set_option maxHeartbeats 1000000
set_option maxRecDepth 10000
attribute [local irreducible] HC HL HQ HX HO At Y YV Opd Opds KnX Sl Ld Src GV RV Calls Code.wp eptr adr RdF ownF OneX HG LdC
theorem same_In {v u : Value} {xs : List Int} (w : World) (hr : RdF w v xs := by exact rdA) (hq : RdF w u xs := by exact rdA) : Calls Tryz.prog 45 #[v, u] w (Ret (fun _ : Unit => .bool true) (fun _ => []) w) := by
  have := c_eqIntS w hr hq
  rwa [decide_eq_true rfl] at this
theorem same_Pl {z : Int} {A A' : Option Addr} {n m n' m' : Nat} {xs : List Pg} (w : World) (hr : RdF w (.slice A n m) xs := by exact rdA) (hq : RdF w (.slice A' n' m') xs := by exact rdA) : Calls Tryz.prog 46 #[.agg #[.int .i64 z, .slice A n m], .agg #[.int .i64 z, .slice A' n' m']] w (Ret (fun _ : Unit => .bool true) (fun _ => []) w) := by
  have := c_eqPool (z := z) (z' := z) w hr hq
  rwa [decide_eq_true rfl] at this
set_option maxHeartbeats 4000000 in
theorem c_law_QueryRun {v : Value} {xs : List Sg} {c k l n z : Int} {A : Option Addr} {m cp : Nat} {ps : List Pg} (w : World) (hsz : ∀ s ∈ xs, s.b.size ≤ 9223372036854775807) (hr : RdF w v xs) (hp : RdF w (.slice A m cp) ps) : Calls Tryz.prog 8 #[v, .int .i64 c, .agg #[.int .i64 z, .slice A m cp], .agg #[.int .i64 k, .int .i64 l, .int .i64 n]] w (Ret (fun _ : Unit => .bool true) (fun _ => []) w) := by
  have o1 := hr.one
  by_cases h : (tots xs : Int) ≤ 1048576
  · have hSz : ∀ w, RdF w v xs → Calls Tryz.prog 14 #[v, .int .i64 1048576] w (Ret (fun _ : Unit => .int .i64 (1048576 - tots xs)) (fun _ => []) w) := fun w a => c_szSegS_yes w hsz h (by omega) a
    have hb := tots_bounds (xs := xs) (k := 1048576) (by omega)
    obtain ⟨hl0, hs0⟩ := hb
    have hl : xs.length ≤ 2000000 := by omega
    have hs : ∀ s ∈ xs, s.b.size ≤ 4000000 := fun s h => by have := hs0 s h; omega
    by_cases h2 : (ps.length : Int) ≤ 1048576 - tots xs
    · have hPz : ∀ w, RdF w (.slice A m cp) ps → Calls Tryz.prog 42 #[.agg #[.int .i64 z, .slice A m cp], .int .i64 (1048576 - tots xs)] w (Ret (fun _ : Unit => .int .i64 (1048576 - tots xs - ps.length)) (fun _ => []) w) := fun w a => by
        have := c_szPool (z := z) (k := 1048576 - tots xs) w a
        rwa [if_neg (by omega)] at this
      have hpl : ps.length ≤ 1048576 := by omega
      have hrl := runQ_len xs c ⟨z, ps⟩ ⟨k, ⟨l, n⟩⟩
      have hSp : ∀ u A' m' cp' w, RdF w u xs → RdF w (.slice A' m' cp') ps → Calls Tryz.prog 43 #[u, .int .i64 c, .agg #[.int .i64 z, .slice A' m' cp'], .agg #[.int .i64 k, .int .i64 l, .int .i64 n]] w (Ret (fun y : V1 × Sv => .tuple #[y.1.1, .agg #[.int .i64 (runQ xs c ⟨z, ps⟩ ⟨k, ⟨l, n⟩⟩).2.1.z, .slice y.2.a y.2.n y.2.c], .int .i64 (runQ xs c ⟨z, ps⟩ ⟨k, ⟨l, n⟩⟩).2.2]) (fun y => [ownF 3 y.1.1 (runQ xs c ⟨z, ps⟩ ⟨k, ⟨l, n⟩⟩).1, ownF 63 (.slice y.2.a y.2.n y.2.c) (runQ xs c ⟨z, ps⟩ ⟨k, ⟨l, n⟩⟩).2.1.l]) w) := fun u A' m' cp' w a b => c_s_Run w hs hl a b
      have hIp : ∀ u A' m' cp' w, RdF w u xs → RdF w (.slice A' m' cp') ps → Calls Tryz.prog 38 #[u, .int .i64 c, .agg #[.int .i64 z, .slice A' m' cp'], .agg #[.int .i64 k, .int .i64 l, .int .i64 n]] w (Ret (fun y : V1 × Sv => .tuple #[y.1.1, .agg #[.int .i64 (runQ xs c ⟨z, ps⟩ ⟨k, ⟨l, n⟩⟩).2.1.z, .slice y.2.a y.2.n y.2.c], .int .i64 (runQ xs c ⟨z, ps⟩ ⟨k, ⟨l, n⟩⟩).2.2]) (fun y => [ownF 3 y.1.1 (runQ xs c ⟨z, ps⟩ ⟨k, ⟨l, n⟩⟩).1, ownF 63 (.slice y.2.a y.2.n y.2.c) (runQ xs c ⟨z, ps⟩ ⟨k, ⟨l, n⟩⟩).2.1.l]) w) := fun u A' m' cp' w a b => c_i_Run w hs hl a b
      generalize runQ xs c ⟨z, ps⟩ ⟨k, ⟨l, n⟩⟩ = R at *
      obtain ⟨an, ⟨rz, rl⟩, rn⟩ := R
      dsimp only at *
      obtain ⟨hal, hrl⟩ := hrl
      have hbnd : 0 ≤ 1048576 - (tots xs : Int) := by omega
      refine enter (args := _) Tryz.func8 rfl Tryz.ntmps8 (by simp) ?_
      repeat' (first | refine E.st ?_ | refine E.cl (h := fun _ w hw => hSz w (hr.now hw)) (k := ?_) | refine E.cl (h := fun _ w hw => hPz w (hp.now hw)) (k := ?_) | refine E.q3 ?_ | refine E.q ?_ | refine E.qs ?_ | refine E.q2 ?_ | refine E.q4 ?_ | refine E.tr ?_ | refine E.ap (fun _ _ => ?_) | refine E.b1 (fun _ _ => ?_) | refine E.b0 (fun _ _ => ?_) | refine E.bsn (fun _ _ => ?_) | refine E.mk (fun _ _ => ?_) | refine E.bxO (fun _ => ?_) | refine E.al (fun _ => ?_) | refine E.sbO ?_ | refine E.ct ?_ | refine E.cf ?_ | refine E.cs (fun hh => ?_) (fun hh => ?_) | refine E.at_block_other rfl ?_)
      all_goals first
        | (exfalso; omega)
        | skip
      rename_i g6 g7
      refine hcf [(6, .pl (.pointer (some ⟨g6, 0, none⟩))), (7, .pl (.pointer (some ⟨g7, 0, none⟩))), (8, .pl (.bool false)), (0, .pl v), (1, .pl (.int .i64 c))] ?_
      refine E.jr 8 (α := Nat × V1 × Sv) (fun _ => True) (fun z => [(10, .pl z.2.1.1), (11, .pl (.pointer (some ⟨z.1, 0, none⟩))), (12, .pl (.int .i64 rn))]) (fun z => [.box z.1 68 [.int .i64 rz, .slice z.2.2.a z.2.2.n z.2.2.c], ownF 3 z.2.1.1 an, ownF 63 (.slice z.2.2.a z.2.2.n z.2.2.c) rl]) [10, 11, 12] [] ?_ (fun q8 _ => E.wy q8.2.1.2 (fun _ => ?_))
      · repeat' (first | refine E.st ?_ | refine E.dxa [0, 2, 3, 5, 1, 4, 6, 7, 8, 9, 10, 11, 12, 13, 14, 15] ?_ | refine E.br2 (i := 1) (j := 12) ?_ ?_ | refine E.br2 (i := 4) (j := 12) ?_ ?_ | refine E.br2 (i := 6) (j := 12) ?_ ?_ | refine E.br2 (i := 7) (j := 12) ?_ ?_ | refine E.cl (h := fun _ w _ => c_toQuery w) (k := ?_) | refine E.cm (h := fun w hw => c_toSegS (xs := xs) w (hr.now hw)) (k := fun z => E.wy z.2 (fun _ => ?_)) | refine E.cm (h := fun w hw => c_toPool (xs := ps) w (hp.now hw)) (k := fun z => ?_) | refine E.cm (h := fun w hw => hSp _ _ _ _ w (RdF.ofK hw) (RdF.ofK hw)) (k := fun zs => E.wy zs.1.2 (fun _ => ?_)) | refine E.q3 ?_ | refine E.q ?_ | refine E.qs ?_ | refine E.q2 ?_ | refine E.q4 ?_ | refine E.tr ?_ | refine E.ap (fun _ _ => ?_) | refine E.b1 (fun _ _ => ?_) | refine E.b0 (fun _ _ => ?_) | refine E.bsn (fun _ _ => ?_) | refine E.mk (fun _ _ => ?_) | refine E.bxO (fun _ => ?_) | refine E.al (fun _ => ?_) | refine E.sbO ?_ | refine E.dq ?_ | refine E.ct ?_ | refine E.cf ?_ | refine E.cs (fun hh => ?_) (fun hh => ?_) | refine E.at_block_other rfl ?_)
        all_goals (simp only [List.getElem_toArray, List.getElem_cons_succ, List.getElem_cons_zero]; exact E.md (α := Nat × V1 × Sv) (_, zs) trivial (hK := ksv))
      dsimp only [List.cons_append, List.nil_append]
      refine hcf [(10, .pl q8.2.1.1), (11, .pl (.pointer (some ⟨q8.1, 0, none⟩))), (12, .pl (.int .i64 rn)), (6, .pl (.pointer (some ⟨g6, 0, none⟩))), (7, .pl (.pointer (some ⟨g7, 0, none⟩))), (8, .pl (.bool false)), (0, .pl v), (1, .pl (.int .i64 c))] ?_
      repeat' (first | refine E.st ?_ | refine E.cm (h := fun w hw => c_toSegS (xs := xs) w (hr.now hw)) (k := fun z => E.wy z.2 (fun _ => ?_)) | refine E.cm (h := fun w hw => c_toPool (xs := ps) w (hp.now hw)) (k := fun z => ?_) | refine E.al (fun _ => ?_) | refine E.q3 ?_ | refine E.q ?_ | refine E.qs ?_ | refine E.q2 ?_ | refine E.q4 ?_ | refine E.tr ?_ | refine E.ap (fun _ _ => ?_) | refine E.b1 (fun _ _ => ?_) | refine E.b0 (fun _ _ => ?_) | refine E.bsn (fun _ _ => ?_) | refine E.mk (fun _ _ => ?_) | refine E.bxO (fun _ => ?_) | refine E.al (fun _ => ?_) | refine E.sbO ?_ | refine E.ct ?_ | refine E.cf ?_ | refine E.cs (fun hh => ?_) (fun hh => ?_) | refine E.at_block_other rfl ?_)
      rename_i g14
      refine E.jr 11 (α := Nat × V1 × Sv) (fun _ => True) (fun z => [(15, .pl z.2.1.1), (16, .pl (.pointer (some ⟨z.1, 0, none⟩))), (17, .pl (.int .i64 rn))]) (fun z => [.box z.1 68 [.int .i64 rz, .slice z.2.2.a z.2.2.n z.2.2.c], ownF 3 z.2.1.1 an, ownF 63 (.slice z.2.2.a z.2.2.n z.2.2.c) rl]) [15, 16, 17] [] ?_ (fun q11 _ => E.wy q11.2.1.2 (fun _ => ?_))
      · repeat' (first | refine E.st ?_ | refine E.dxa [0, 1, 2, 3, 4, 5, 6, 7, 8, 9, 10, 11, 12, 13] ?_ | refine E.br2 (i := 4) (j := 10) ?_ ?_ | refine E.br2 (i := 5) (j := 10) ?_ ?_ | refine E.cl (h := fun _ w _ => c_toQuery w) (k := ?_) | refine E.cm (h := fun w hw => hIp _ _ _ _ w (RdF.ofK hw) (RdF.ofK hw)) (k := fun zi => E.wy zi.1.2 (fun _ => ?_)) | refine E.q3 ?_ | refine E.q ?_ | refine E.qs ?_ | refine E.q2 ?_ | refine E.q4 ?_ | refine E.tr ?_ | refine E.ap (fun _ _ => ?_) | refine E.b1 (fun _ _ => ?_) | refine E.b0 (fun _ _ => ?_) | refine E.bsn (fun _ _ => ?_) | refine E.mk (fun _ _ => ?_) | refine E.bxO (fun _ => ?_) | refine E.al (fun _ => ?_) | refine E.sbO ?_ | refine E.dq ?_ | refine E.ct ?_ | refine E.cf ?_ | refine E.cs (fun hh => ?_) (fun hh => ?_) | refine E.at_block_other rfl ?_)
        all_goals (simp only [List.getElem_toArray, List.getElem_cons_succ, List.getElem_cons_zero]; exact E.md (α := Nat × V1 × Sv) (_, zi) trivial (hK := ksv))
      dsimp only [List.cons_append, List.nil_append]
      repeat' (first | refine E.st ?_ | refine E.dxa [0, 1, 2, 3, 4] ?_ | refine E.ug ?_ | refine E.cm (h := fun w hw => c_toSegS (xs := xs) w (hr.now hw)) (k := fun z => E.wy z.2 (fun _ => ?_)) | refine E.cm (h := fun w hw => c_toPool (xs := ps) w (hp.now hw)) (k := fun z => ?_) | refine E.cl (h := fun _ w hw => same_In (xs := an) w) (k := ?_) | refine E.cl (h := fun _ w hw => same_Pl (xs := rl) w) (k := ?_) | refine E.cl (h := fun _ w hw => same_Pl (xs := ps) w) (k := ?_) | refine E.cl (h := fun _ w hw => c_eqSegS_same (xs := xs) w) (k := ?_) | refine E.ckq (h := fun w hw => c_markSegS (xs := xs) (k := 1) w hw) (k := fun _ => ?_) | refine E.ckq (h := fun w hw => c_markPool (xs := ps) w hw) (k := fun _ => ?_) | refine E.ckq (h := fun w hw => c_markPool (xs := rl) w hw) (k := fun _ => ?_) | refine E.ckp (h := fun K'' w hw => c_markIntS (xs := an) (k := 1) w hw) (k := fun _ => ?_) | refine E.cl (h := fun _ w hw => c_heldIntS (n := an.length) (k := 1) w) (k := ?_) | refine E.cl (h := fun _ w hw => c_heldPool (n := rl.length) w) (k := ?_) | refine E.q3 ?_ | refine E.q ?_ | refine E.qs ?_ | refine E.q2 ?_ | refine E.q4 ?_ | refine E.tr ?_ | refine E.ap (fun _ _ => ?_) | refine E.b1 (fun _ _ => ?_) | refine E.b0 (fun _ _ => ?_) | refine E.bsn (fun _ _ => ?_) | refine E.mk (fun _ _ => ?_) | refine E.bxO (fun _ => ?_) | refine E.al (fun _ => ?_) | refine E.sbO ?_ | refine E.ct ?_ | refine E.cf ?_ | refine E.cs (fun hh => ?_) (fun hh => ?_) | refine E.at_block_other rfl ?_)
      all_goals first
        | (exfalso; simp at hh; done)
        | (exfalso; simp only [Bool.not_true, Bool.or_false, decide_eq_true_eq, not_true_eq_false, Bool.false_eq_true, or_false] at *; omega)
        | skip
      refine hcf [(10, .pl q8.2.1.1), (11, .pl (.pointer (some ⟨q8.1, 0, none⟩))), (12, .pl (.int .i64 rn)), (6, .pl (.pointer (some ⟨g6, 0, none⟩))), (7, .pl (.pointer (some ⟨g7, 0, none⟩))), (8, .pl (.bool false)), (0, .pl v), (1, .pl (.int .i64 c)), (15, .pl q11.2.1.1), (16, .pl (.pointer (some ⟨q11.1, 0, none⟩))), (19, .pl _)] ?_
      refine E.jr 35 (α := Nat × V1 × Sv) (fun _ => True) (fun z => [(21, .pl z.2.1.1), (22, .pl (.pointer (some ⟨z.1, 0, none⟩))), (23, .pl (.int .i64 rn))]) (fun z => [.box z.1 68 [.int .i64 rz, .slice z.2.2.a z.2.2.n z.2.2.c], ownF 3 z.2.1.1 an, ownF 63 (.slice z.2.2.a z.2.2.n z.2.2.c) rl]) [21, 22, 23] [] ?_ (fun q35 _ => E.wy q35.2.1.2 (fun _ => ?_))
      · repeat' (first | refine E.st ?_ | refine E.dxa [0, 2, 3, 5, 1, 4, 6, 7, 8, 9, 10, 11, 12, 13, 14, 15] ?_ | refine E.br2 (i := 1) (j := 12) ?_ ?_ | refine E.br2 (i := 4) (j := 12) ?_ ?_ | refine E.br2 (i := 6) (j := 12) ?_ ?_ | refine E.br2 (i := 7) (j := 12) ?_ ?_ | refine E.cl (h := fun _ w _ => c_toQuery w) (k := ?_) | refine E.cm (h := fun w hw => c_toSegS (xs := xs) w (hr.now hw)) (k := fun z => E.wy z.2 (fun _ => ?_)) | refine E.cm (h := fun w hw => c_toPool (xs := ps) w (hp.now hw)) (k := fun z => ?_) | refine E.cm (h := fun w hw => hIp _ _ _ _ w (RdF.ofK hw) (RdF.ofK hw)) (k := fun zi => E.wy zi.1.2 (fun _ => ?_)) | refine E.q3 ?_ | refine E.q ?_ | refine E.qs ?_ | refine E.q2 ?_ | refine E.q4 ?_ | refine E.tr ?_ | refine E.ap (fun _ _ => ?_) | refine E.b1 (fun _ _ => ?_) | refine E.b0 (fun _ _ => ?_) | refine E.bsn (fun _ _ => ?_) | refine E.mk (fun _ _ => ?_) | refine E.bxO (fun _ => ?_) | refine E.al (fun _ => ?_) | refine E.sbO ?_ | refine E.dq ?_ | refine E.ct ?_ | refine E.cf ?_ | refine E.cs (fun hh => ?_) (fun hh => ?_) | refine E.at_block_other rfl ?_)
        all_goals (simp only [List.getElem_toArray, List.getElem_cons_succ, List.getElem_cons_zero]; exact E.md (α := Nat × V1 × Sv) (_, zi) trivial (hK := ksv))
      dsimp only [List.cons_append, List.nil_append]
      repeat' (first | refine E.st ?_ | refine E.ug ?_ | refine E.cl (h := fun _ w hw => same_In (xs := an) w) (k := ?_) | refine E.cl (h := fun _ w hw => same_Pl (xs := rl) w) (k := ?_) | refine E.ckq (h := fun w hw => c_markSegS (xs := xs) (k := 1) w hw) (k := fun _ => ?_) | refine E.ckq (h := fun w hw => c_markPool (xs := ps) w hw) (k := fun _ => ?_) | refine E.ckq (h := fun w hw => c_markPool (xs := rl) w hw) (k := fun _ => ?_) | refine E.ckp (h := fun K'' w hw => c_markIntS (xs := an) (k := 1) w hw) (k := fun _ => ?_) | refine E.cl (h := fun _ w hw => c_heldIntS (n := an.length) (k := 1) w) (k := ?_) | refine E.cl (h := fun _ w hw => c_heldPool (n := rl.length) w) (k := ?_) | refine E.q3 ?_ | refine E.q ?_ | refine E.qs ?_ | refine E.q2 ?_ | refine E.q4 ?_ | refine E.tr ?_ | refine E.ap (fun _ _ => ?_) | refine E.b1 (fun _ _ => ?_) | refine E.b0 (fun _ _ => ?_) | refine E.bsn (fun _ _ => ?_) | refine E.mk (fun _ _ => ?_) | refine E.bxO (fun _ => ?_) | refine E.al (fun _ => ?_) | refine E.sbO ?_ | refine E.ct ?_ | refine E.cf ?_ | refine E.cs (fun hh => ?_) (fun hh => ?_) | refine E.at_block_other rfl ?_)
      all_goals first
        | exact rb
        | (exfalso; simp at hh; done)
        | (exfalso; simp only [Bool.not_true, Bool.or_false, decide_eq_true_eq, not_true_eq_false, Bool.false_eq_true, or_false] at *; omega)
        | trace_state
    · have hPz : ∀ w, RdF w (.slice A m cp) ps → Calls Tryz.prog 42 #[.agg #[.int .i64 z, .slice A m cp], .int .i64 (1048576 - tots xs)] w (Ret (fun _ : Unit => .int .i64 (-1)) (fun _ => []) w) := fun w a => by
        have := c_szPool (z := z) (k := 1048576 - tots xs) w a
        rwa [if_pos (by omega)] at this
      refine enter (args := _) Tryz.func8 rfl Tryz.ntmps8 (by simp) ?_
      repeat' (first | refine E.st ?_ | refine E.cl (h := fun _ w hw => hSz w (hr.now hw)) (k := ?_) | refine E.cl (h := fun _ w hw => hPz w (hp.now hw)) (k := ?_) | refine E.q3 ?_ | refine E.q ?_ | refine E.qs ?_ | refine E.q2 ?_ | refine E.q4 ?_ | refine E.tr ?_ | refine E.ap (fun _ _ => ?_) | refine E.b1 (fun _ _ => ?_) | refine E.b0 (fun _ _ => ?_) | refine E.bsn (fun _ _ => ?_) | refine E.mk (fun _ _ => ?_) | refine E.bxO (fun _ => ?_) | refine E.al (fun _ => ?_) | refine E.sbO ?_ | refine E.dq ?_ | refine E.ct ?_ | refine E.cf ?_ | refine E.cs (fun hh => ?_) (fun hh => ?_) | refine E.at_block_other rfl ?_)
      all_goals first
        | exact rb
        | (exfalso; omega)
  · have hSz : ∀ w, RdF w v xs → Calls Tryz.prog 14 #[v, .int .i64 1048576] w (Ret (fun _ : Unit => .int .i64 (-1)) (fun _ => []) w) := fun w a => c_szSegS_no w hsz h (by omega) a
    refine enter (args := _) Tryz.func8 rfl Tryz.ntmps8 (by simp) ?_
    repeat' (first | refine E.st ?_ | refine E.cl (h := fun _ w hw => hSz w (hr.now hw)) (k := ?_) | refine E.q3 ?_ | refine E.q ?_ | refine E.qs ?_ | refine E.q2 ?_ | refine E.q4 ?_ | refine E.tr ?_ | refine E.ap (fun _ _ => ?_) | refine E.b1 (fun _ _ => ?_) | refine E.b0 (fun _ _ => ?_) | refine E.bsn (fun _ _ => ?_) | refine E.mk (fun _ _ => ?_) | refine E.bxO (fun _ => ?_) | refine E.al (fun _ => ?_) | refine E.sbO ?_ | refine E.dq ?_ | refine E.ct ?_ | refine E.cf ?_ | refine E.cs (fun hh => ?_) (fun hh => ?_) | refine E.at_block_other rfl ?_)
    exact rb
end E
end Go.Proofs.YtpiiapoafmnhhaaGreat
