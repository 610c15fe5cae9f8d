/- impl.QueryPages and impl.QueryRun. -/
import Derived.Test.YtpiiapoafmnhhaaGreatZj
import Derived.Test.YtpiiapoafmnhhaaGreatZh
namespace Go.Proofs.YtpiiapoafmnhhaaGreat
namespace E
open Go Go.RowKit
set_option linter.unusedSimpArgs false
set_option linter.unusedVariables false
set_option maxHeartbeats 1000000
set_option maxRecDepth 10000
attribute [local irreducible] HC HL HQ HX HO At Y YV Opd Opds KnX Sl Ld Src GV RV Calls Code.wp eptr adr RdF ownF OneX HG LdC
theorem c_queryRead_n {v : Value} {xs : List Sg} {c k l n : Int} (w : World) (hs : ∀ s ∈ xs, s.b.size ≤ 4000000) (hbad : ¬ ∃ g0, readL xs = some g0 ∧ lok c = true ∧ qok ⟨k, ⟨l, n⟩⟩ = true) (hr : RdF w v xs := by exact rdA) :
    Calls Tryz.prog 65 #[v, .int .i64 c, .agg #[.int .i64 k, .int .i64 l, .int .i64 n]] w (Ret (fun _ : Unit => .tuple #[.agg #[.slice none 0 0, .slice none 0 0], .slice none 0 0, .bool false]) (fun _ => []) w) := by
  have o1 := hr.one
  have hR1 : ∀ w, RdF w v xs → Calls Tryz.prog 32 #[v] w (Ret (fun z : V1 × V1 => .tuple #[.agg #[z.1.1, z.2.1], .bool (readL xs).isSome]) (fun z => [ownF 32 z.1.1 (grO (readL xs)).ns, ownF 84 z.2.1 (grO (readL xs)).es]) w) := fun w h => c_i_StoreRead w hs h
  cases e1 : readL xs with
  | none =>
    rw [e1] at hR1
    simp only [grO, Option.getD_none, Option.isSome_none] at hR1
    refine enter (args := _) Tryz.func65 rfl Tryz.ntmps65 (by simp) ?_
    repeat' (first | refine E.st ?_ | refine E.sk ?_ | refine E.cm (h := fun w hw => hR1 w (hr.now hw)) (k := fun z1 => E.wy z1.1.2 (fun a1 => E.wy z1.2.2 (fun a2 => ?_))) | refine E.q3 ?_ | refine E.q ?_ | refine E.qs ?_ | refine E.q2 ?_ | refine E.q4 ?_ | refine E.tr ?_ | refine E.ap (fun _ _ => ?_) | refine E.b1 (fun _ _ => ?_) | refine E.b0 (fun _ _ => ?_) | refine E.bsn (fun _ _ => ?_) | refine E.mk (fun _ _ => ?_) | refine E.bxO (fun _ => ?_) | refine E.al (fun _ => ?_) | refine E.sbO ?_ | refine E.dq ?_ | refine E.ct ?_ | refine E.cf ?_ | refine E.cs (fun hh => ?_) (fun hh => ?_) | refine E.at_block_other rfl ?_)
    all_goals first
      | exact rn () (hK := ksv)
      | (exfalso; simp at hh; done)
      | trace_state
  | some g0 =>
    rw [e1] at hR1
    simp only [Option.isSome_some] at hR1
    cases hc : lok c with
    | false =>
      have hL : ∀ w, Calls Tryz.prog 34 #[.int .i64 c] w (Ret (fun _ : Unit => .bool false) (fun _ => []) w) := fun w => by rw [← hc]; exact c_i_LabelOk w
      refine enter (args := _) Tryz.func65 rfl Tryz.ntmps65 (by simp) ?_
      repeat' (first | refine E.st ?_ | refine E.ug ?_ | refine E.sk ?_ | refine E.cm (h := fun w hw => hR1 w (hr.now hw)) (k := fun z1 => E.wy z1.1.2 (fun a1 => E.wy z1.2.2 (fun a2 => ?_))) | refine E.cl (h := fun _ w hw => hL w) (k := ?_) | refine E.q3 ?_ | refine E.q ?_ | refine E.qs ?_ | refine E.q2 ?_ | refine E.q4 ?_ | refine E.tr ?_ | refine E.ap (fun _ _ => ?_) | refine E.b1 (fun _ _ => ?_) | refine E.b0 (fun _ _ => ?_) | refine E.bsn (fun _ _ => ?_) | refine E.mk (fun _ _ => ?_) | refine E.bxO (fun _ => ?_) | refine E.al (fun _ => ?_) | refine E.sbO ?_ | refine E.dq ?_ | refine E.ct ?_ | refine E.cf ?_ | refine E.cs (fun hh => ?_) (fun hh => ?_) | refine E.at_block_other rfl ?_)
      all_goals first
        | exact rn () (hK := ksv)
        | (exfalso; simp at hh; done)
        | trace_state
    | true =>
      have hL : ∀ w, Calls Tryz.prog 34 #[.int .i64 c] w (Ret (fun _ : Unit => .bool true) (fun _ => []) w) := fun w => by rw [← hc]; exact c_i_LabelOk w
      have hq : qok ⟨k, ⟨l, n⟩⟩ = false := by
        cases h : qok ⟨k, ⟨l, n⟩⟩ with
        | false => rfl
        | true => exact (hbad ⟨g0, e1, hc, h⟩).elim
      refine enter (args := _) Tryz.func65 rfl Tryz.ntmps65 (by simp) ?_
      repeat' (first | refine E.st ?_ | refine E.ug ?_ | refine E.sk ?_ | refine E.cm (h := fun w hw => hR1 w (hr.now hw)) (k := fun z1 => E.wy z1.1.2 (fun a1 => E.wy z1.2.2 (fun a2 => ?_))) | refine E.cl (h := fun _ w hw => hL w) (k := ?_) | refine E.cl (h := fun _ w _ => c_i_QueryOk_f w hq) (k := ?_)  | refine E.q3 ?_ | refine E.q ?_ | refine E.qs ?_ | refine E.q2 ?_ | refine E.q4 ?_ | refine E.tr ?_ | refine E.ap (fun _ _ => ?_) | refine E.b1 (fun _ _ => ?_) | refine E.b0 (fun _ _ => ?_) | refine E.bsn (fun _ _ => ?_) | refine E.mk (fun _ _ => ?_) | refine E.bxO (fun _ => ?_) | refine E.al (fun _ => ?_) | refine E.sbO ?_ | refine E.dq ?_ | refine E.ct ?_ | refine E.cf ?_ | refine E.cs (fun hh => ?_) (fun hh => ?_) | refine E.at_block_other rfl ?_)
      all_goals first
        | exact rn () (hK := ksv)
        | (exfalso; simp at hh; done)
        | trace_state
theorem pagesQ_yes {xs : List Sg} {g0 : Gr} {c : Int} {q : Qu} (e1 : readL xs = some g0) (hc : lok c = true) (hq : qok q = true) : pagesQ xs c q = pagesL (view g0 c) q := by
  rw [← pages_view e1]
  unfold pagesQ
  rw [e1, read_view (c := c) e1]
  exact if_pos ⟨hc, hq⟩
theorem pagesQ_no {xs : List Sg} {c : Int} {q : Qu} (h : ¬ ∃ g0, readL xs = some g0 ∧ lok c = true ∧ qok q = true) : pagesQ xs c q = [] := by
  unfold pagesQ
  split
  · rename_i g0 g e1 e2
    exact if_neg (fun hh => h ⟨g0, e1, hh⟩)
  · rfl
theorem c_i_QueryPages {v : Value} {xs : List Sg} {c k l n : Int} (w : World) (hs : ∀ s ∈ xs, s.b.size ≤ 4000000) (hl : xs.length ≤ 2000000) (hr : RdF w v xs := by exact rdA) :
    Calls Tryz.prog 18 #[v, .int .i64 c, .agg #[.int .i64 k, .int .i64 l, .int .i64 n]] w (Ret (fun z : V1 => z.1) (fun z => [ownF 63 z.1 (pagesQ xs c ⟨k, ⟨l, n⟩⟩)]) w) := by
  have o1 := hr.one
  by_cases hg : ∃ g0, readL xs = some g0 ∧ lok c = true ∧ qok ⟨k, ⟨l, n⟩⟩ = true
  · obtain ⟨g0, e1, hc, hq⟩ := hg
    rw [pagesQ_yes e1 hc hq]
    refine enter (args := _) Tryz.func18 rfl Tryz.ntmps18 (by simp) ?_
    repeat' (first | refine E.st ?_ | refine E.cm (h := fun w hw => c_queryRead w hs hl e1 hc hq (hr.now hw)) (k := fun z => E.wy z.1.2 (fun _ => E.wy z.2.1.2 (fun _ => E.wy z.2.2.2 (fun _ => ?_)))) | refine E.q3 ?_ | refine E.q ?_ | refine E.qs ?_ | refine E.q2 ?_ | refine E.q4 ?_ | refine E.tr ?_ | refine E.ap (fun _ _ => ?_) | refine E.b1 (fun _ _ => ?_) | refine E.b0 (fun _ _ => ?_) | refine E.bsn (fun _ _ => ?_) | refine E.mk (fun _ _ => ?_) | refine E.bxO (fun _ => ?_) | refine E.al (fun _ => ?_) | refine E.sbO ?_ | refine E.dq ?_ | refine E.ct ?_ | refine E.cf ?_ | refine E.cs (fun hh => ?_) (fun hh => ?_) | refine E.at_block_other rfl ?_)
    exact r1 (α := V1) z.2.2 (hK := ksv)
  · rw [pagesQ_no hg]
    refine enter (args := _) Tryz.func18 rfl Tryz.ntmps18 (by simp) ?_
    refine E.nl 63 (α := Pg) ?_
    repeat' (first | refine E.st ?_ | refine E.cl (h := fun _ w hw => c_queryRead_n w hs hg (hr.now hw)) (k := ?_) | refine E.q3 ?_ | refine E.q ?_ | refine E.qs ?_ | refine E.q2 ?_ | refine E.q4 ?_ | refine E.tr ?_ | refine E.ap (fun _ _ => ?_) | refine E.b1 (fun _ _ => ?_) | refine E.b0 (fun _ _ => ?_) | refine E.bsn (fun _ _ => ?_) | refine E.mk (fun _ _ => ?_) | refine E.bxO (fun _ => ?_) | refine E.al (fun _ => ?_) | refine E.sbO ?_ | refine E.dq ?_ | refine E.ct ?_ | refine E.cf ?_ | refine E.cs (fun hh => ?_) (fun hh => ?_) | refine E.at_block_other rfl ?_)
    exact r1 (α := V1) ⟨.slice none 0 0, rfl⟩ (hK := ksv)
theorem c_i_QueryRun_y {v : Value} {xs : List Sg} {g0 : Gr} {c k l n z : Int} {A : Option Addr} {m cp : Nat} {ps : List Pg} (w : World) (hs : ∀ s ∈ xs, s.b.size ≤ 4000000) (hl : xs.length ≤ 2000000) (e1 : readL xs = some g0) (hc : lok c = true) (hq : qok ⟨k, ⟨l, n⟩⟩ = true) (hok : PlOk ⟨z, ps⟩) (hr : RdF w v xs := by exact rdA) (hp : RdF w (.slice A m cp) ps := by exact rdA) :
    Calls Tryz.prog 38 #[v, .int .i64 c, .agg #[.int .i64 z, .slice A m cp], .agg #[.int .i64 k, .int .i64 l, .int .i64 n]] w (Ret (fun y : V1 × Sv => .tuple #[y.1.1, .agg #[.int .i64 z, .slice y.2.a y.2.n y.2.c], .int .i64 (allP ⟨z, ps⟩ (pagesL (view g0 c) ⟨k, ⟨l, n⟩⟩)).2]) (fun y => [ownF 3 y.1.1 (askL (view g0 c) ⟨k, ⟨l, n⟩⟩), ownF 63 (.slice y.2.a y.2.n y.2.c) (allP ⟨z, ps⟩ (pagesL (view g0 c) ⟨k, ⟨l, n⟩⟩)).1.l]) w) := by
  have o1 := hr.one
  have hg := (readL_some e1).1
  have hgv : (view g0 c).ok := hg.view
  have hpl := pagesL_len hgv ⟨k, ⟨l, n⟩⟩
  have hpo : ∀ y ∈ pagesL (view g0 c) ⟨k, ⟨l, n⟩⟩, pgok y = true := fun y h => (pages_in hgv h).1
  have hQR : ∀ w, RdF w v xs → Calls Tryz.prog 65 #[v, .int .i64 c, .agg #[.int .i64 k, .int .i64 l, .int .i64 n]] w (Ret (fun z : V1 × V1 × V1 => .tuple #[.agg #[z.1.1, z.2.1.1], z.2.2.1, .bool true]) (fun z => [ownF 32 z.1.1 (view g0 c).ns, ownF 84 z.2.1.1 (view g0 c).es, ownF 63 z.2.2.1 (pagesL (view g0 c) ⟨k, ⟨l, n⟩⟩)]) w) := fun w h => c_queryRead w hs hl e1 hc hq h
  have hPl : ∀ w, RdF w (.slice A m cp) ps → Calls Tryz.prog 57 #[.agg #[.int .i64 z, .slice A m cp]] w (Ret (fun _ : Unit => .bool true) (fun _ => []) w) := fun w h => by
    have := c_i_PoolOk (z := z) w h
    rwa [decide_eq_true hok] at this
  have hAll : ∀ u w, RdF w (.slice A m cp) ps → RdF w u (pagesL (view g0 c) ⟨k, ⟨l, n⟩⟩) → Calls Tryz.prog 40 #[.agg #[.int .i64 z, .slice A m cp], u] w (Ret (fun s : Sv => .tuple #[.agg #[.int .i64 z, .slice s.a s.n s.c], .int .i64 (allP ⟨z, ps⟩ (pagesL (view g0 c) ⟨k, ⟨l, n⟩⟩)).2]) (fun s => [ownF 63 (.slice s.a s.n s.c) (allP ⟨z, ps⟩ (pagesL (view g0 c) ⟨k, ⟨l, n⟩⟩)).1.l]) w) := fun u w h1 h2 => c_i_PoolAll w hok hpo hpl h1 h2
  have hAsk : ∀ u u' w, RdF w u (view g0 c).ns → RdF w u' (view g0 c).es → Calls Tryz.prog 25 #[.agg #[u, u'], .agg #[.int .i64 k, .int .i64 l, .int .i64 n]] w (Ret (fun z : V1 => z.1) (fun z => [ownF 3 z.1 (askL (view g0 c) ⟨k, ⟨l, n⟩⟩)]) w) := fun u u' w h1 h2 => c_i_QueryAsk graphNear nearP w h1 h2
  generalize pagesL (view g0 c) ⟨k, ⟨l, n⟩⟩ = pg at *
  generalize askL (view g0 c) ⟨k, ⟨l, n⟩⟩ = an at *
  refine enter (args := _) Tryz.func38 rfl Tryz.ntmps38 (by simp) ?_
  repeat' (first | refine E.st ?_ | refine E.al (fun _ => ?_) | refine E.q3 ?_ | refine E.q ?_ | refine E.qs ?_ | refine E.q2 ?_ | refine E.q4 ?_ | refine E.tr ?_ | refine E.ap (fun _ _ => ?_) | refine E.b1 (fun _ _ => ?_) | refine E.b0 (fun _ _ => ?_) | refine E.bsn (fun _ _ => ?_) | refine E.mk (fun _ _ => ?_) | refine E.bxO (fun _ => ?_) | refine E.al (fun _ => ?_) | refine E.sbO ?_ | refine E.dq ?_ | refine E.ct ?_ | refine E.cf ?_ | refine E.cs (fun hh => ?_) (fun hh => ?_) | refine E.at_block_other rfl ?_)
  rename_i g6 g7 g9
  repeat' (first | refine E.st ?_ | refine E.ug ?_ | refine E.sk ?_ | refine E.al (fun _ => ?_) | refine E.cm (h := fun w hw => hQR w (hr.now hw)) (k := fun z1 => E.wy z1.1.2 (fun _ => E.wy z1.2.1.2 (fun _ => E.wy z1.2.2.2 (fun _ => ?_)))) | refine E.cl (h := fun _ w hw => hPl w (hp.now hw)) (k := ?_) | refine E.cm (h := fun w hw => hAll _ w (hp.now hw) (RdF.ofK hw)) (k := fun z2 => ?_) | refine E.cm (h := fun w hw => hAsk _ _ w (RdF.ofK hw) (RdF.ofK hw)) (k := fun z3 => E.wy z3.2 (fun _ => ?_)) | refine E.dxq g9 (i := 5) [0, 1, 3, 4, 2, 5, 6, 7] ?_ | refine E.q3 ?_ | refine E.q ?_ | refine E.qs ?_ | refine E.q2 ?_ | refine E.q4 ?_ | refine E.tr ?_ | refine E.ap (fun _ _ => ?_) | refine E.b1 (fun _ _ => ?_) | refine E.b0 (fun _ _ => ?_) | refine E.bsn (fun _ _ => ?_) | refine E.mk (fun _ _ => ?_) | refine E.bxO (fun _ => ?_) | refine E.al (fun _ => ?_) | refine E.sbO ?_ | refine E.dq ?_ | refine E.ct ?_ | refine E.cf ?_ | refine E.cs (fun hh => ?_) (fun hh => ?_) | refine E.at_block_other rfl ?_)
  all_goals first
    | exact rn (α := V1 × Sv) (z3, z2) (hK := ksv)
    | (exfalso; simp at hh; done)
    | trace_state
theorem c_i_QueryRun_n {v : Value} {xs : List Sg} {c k l n z : Int} {A : Option Addr} {m cp : Nat} {ps : List Pg} (w : World) (hs : ∀ s ∈ xs, s.b.size ≤ 4000000) (hl : xs.length ≤ 2000000) (hbad : ¬ ∃ g0, readL xs = some g0 ∧ lok c = true ∧ qok ⟨k, ⟨l, n⟩⟩ = true ∧ PlOk ⟨z, ps⟩) (hr : RdF w v xs := by exact rdA) (hp : RdF w (.slice A m cp) ps := by exact rdA) :
    Calls Tryz.prog 38 #[v, .int .i64 c, .agg #[.int .i64 z, .slice A m cp], .agg #[.int .i64 k, .int .i64 l, .int .i64 n]] w (Ret (fun _ : Unit => .tuple #[.slice none 0 0, .agg #[.int .i64 0, .slice none 0 0], .int .i64 0]) (fun _ => []) w) := by
  have o1 := hr.one
  by_cases hg : ∃ g0, readL xs = some g0 ∧ lok c = true ∧ qok ⟨k, ⟨l, n⟩⟩ = true
  · obtain ⟨g0, e1, hc, hq⟩ := hg
    have hPl : ∀ w, RdF w (.slice A m cp) ps → Calls Tryz.prog 57 #[.agg #[.int .i64 z, .slice A m cp]] w (Ret (fun _ : Unit => .bool false) (fun _ => []) w) := fun w h => by
      have := c_i_PoolOk (z := z) w h
      rwa [decide_eq_false (fun hok => hbad ⟨g0, e1, hc, hq, hok⟩)] at this
    refine enter (args := _) Tryz.func38 rfl Tryz.ntmps38 (by simp) ?_
    repeat' (first | refine E.st ?_ | refine E.ug ?_ | refine E.sk ?_ | refine E.cm (h := fun w hw => c_queryRead w hs hl e1 hc hq (hr.now hw)) (k := fun z1 => E.wy z1.1.2 (fun _ => E.wy z1.2.1.2 (fun _ => E.wy z1.2.2.2 (fun _ => ?_)))) | refine E.cl (h := fun _ w hw => hPl w (hp.now hw)) (k := ?_) | refine E.q3 ?_ | refine E.q ?_ | refine E.qs ?_ | refine E.q2 ?_ | refine E.q4 ?_ | refine E.tr ?_ | refine E.ap (fun _ _ => ?_) | refine E.b1 (fun _ _ => ?_) | refine E.b0 (fun _ _ => ?_) | refine E.bsn (fun _ _ => ?_) | refine E.mk (fun _ _ => ?_) | refine E.bxO (fun _ => ?_) | refine E.al (fun _ => ?_) | refine E.sbO ?_ | refine E.dq ?_ | refine E.ct ?_ | refine E.cf ?_ | refine E.cs (fun hh => ?_) (fun hh => ?_) | refine E.at_block_other rfl ?_)
    all_goals first
      | exact rn () (hK := ksv)
      | (exfalso; simp at hh; done)
      | trace_state
  · refine enter (args := _) Tryz.func38 rfl Tryz.ntmps38 (by simp) ?_
    repeat' (first | refine E.st ?_ | refine E.ug ?_ | refine E.sk ?_ | refine E.cl (h := fun _ w hw => c_queryRead_n w hs hg (hr.now hw)) (k := ?_) | refine E.q3 ?_ | refine E.q ?_ | refine E.qs ?_ | refine E.q2 ?_ | refine E.q4 ?_ | refine E.tr ?_ | refine E.ap (fun _ _ => ?_) | refine E.b1 (fun _ _ => ?_) | refine E.b0 (fun _ _ => ?_) | refine E.bsn (fun _ _ => ?_) | refine E.mk (fun _ _ => ?_) | refine E.bxO (fun _ => ?_) | refine E.al (fun _ => ?_) | refine E.sbO ?_ | refine E.dq ?_ | refine E.ct ?_ | refine E.cf ?_ | refine E.cs (fun hh => ?_) (fun hh => ?_) | refine E.at_block_other rfl ?_)
    all_goals first
      | exact rn () (hK := ksv)
      | (exfalso; simp at hh; done)
      | trace_state
end E
end Go.Proofs.YtpiiapoafmnhhaaGreat
