/- The cores and the threes of a graph, and what is asked of it, as the reference says them. -/
import Derived.Test.YtpiiapoafmnhhaaGreatM08
import Derived.Test.YtpiiapoafmnhhaaGreatM05
namespace Go.Proofs.YtpiiapoafmnhhaaGreat
namespace E
open Go Go.RowKit
set_option linter.unusedSimpArgs false
set_option linter.unusedVariables false
set_option maxHeartbeats 1000000
set_option maxRecDepth 10000
attribute [local irreducible] HC HL HQ HX HO At Y YV Opd Opds KnX Sl Ld Src GV RV Calls Code.wp eptr adr RdF ownF OneX HG LdC
instance : ElT Tryz.prog 4 Bool := ⟨trivial⟩
/-- A round of cores, step by step. -/
theorem core_walk (left : List Bool) (out : List Int) (k : Nat) : ∃ S : Nat → List Int, S 0 = out ∧ (∀ j, S (j + 1) = if left.getD j false = true then (S j).set j (k : Int) else S j) ∧ (∀ j, (S j).length = out.length) ∧ S out.length = coreM left out k := by
  refine ⟨fun j => (List.range j).foldl (fun o i => if left.getD i false = true then o.set i (k : Int) else o) out, rfl, fun j => by simp [List.range_succ], fun j => ?_, ?_⟩
  · induction j with
    | zero => rfl
    | succ j ih =>
      simp only [List.range_succ, List.foldl_append, List.foldl_cons, List.foldl_nil] at ih ⊢
      split
      · rw [List.length_set]; exact ih
      · exact ih
  · have key : ∀ j i, ((List.range j).foldl (fun o i => if left.getD i false = true then o.set i (k : Int) else o) out)[i]? = if i < j ∧ left.getD i false = true then (out[i]?).map (fun _ => (k : Int)) else out[i]? := by
      intro j
      induction j with
      | zero => intro i; simp
      | succ j ih =>
        intro i
        simp only [List.range_succ, List.foldl_append, List.foldl_cons, List.foldl_nil]
        by_cases hij : j = i
        · subst hij
          have hlen : ((List.range j).foldl (fun o i => if left.getD i false = true then o.set i (k : Int) else o) out).length = out.length := by
            clear ih
            induction j with
            | zero => rfl
            | succ j ih2 =>
              simp only [List.range_succ, List.foldl_append, List.foldl_cons, List.foldl_nil]
              split
              · rw [List.length_set]; exact ih2
              · exact ih2
          by_cases hc : left.getD j false = true
          · rw [if_pos hc, List.getElem?_set, hlen]
            by_cases hl : j < out.length
            · rw [List.getD_eq_getElem?_getD] at hc
              simp [hl, hc]
            · simp [hl]
          · rw [if_neg hc, ih j]
            rw [List.getD_eq_getElem?_getD] at hc
            simp [hc]
        · have e : (i < j + 1 ∧ left.getD i false = true) ↔ (i < j ∧ left.getD i false = true) := by
            constructor
            · rintro ⟨h1, h2⟩
              exact ⟨by omega, h2⟩
            · rintro ⟨h1, h2⟩
              exact ⟨by omega, h2⟩
          simp only [e]
          rw [← ih i]
          split
          · rw [List.getElem?_set, if_neg hij]
          · rfl
    refine List.ext_getElem? (fun i => ?_)
    rw [key]
    unfold coreM
    rw [List.getElem?_map]
    by_cases hl : i < out.length
    · rw [List.getElem?_range hl]
      by_cases hc : left.getD i false = true
      · rw [List.getD_eq_getElem?_getD] at hc
        simp [hl, hc]
      · rw [List.getD_eq_getElem?_getD] at hc
        simp [hl, hc, List.getD_eq_getElem?_getD]
    · simp [hl]
theorem c_WalkCore {v u : Value} {g : Gr} (w : World) (hr : RdF w v g.ns := by exact rdA) (hq : RdF w u g.es := by exact rdA) :
    Calls Tryz.prog 82 #[.agg #[v, u]] w (Ret (fun z : V1 => z.1) (fun z => [ownF 3 z.1 (if g.ok then coreL (adjL g) g.ns.length else [])]) w) := by
  have o1 := hr.one
  have o2 := hq.one
  by_cases hg : g.ok
  · have hgt := gok_t hg
    have hnl := hg.1.len
    rw [if_pos hg]
    refine enter (args := _) Tryz.func82 rfl Tryz.ntmps82 (by simp) ?_
    repeat' (first | refine E.st ?_ | refine E.cl (h := fun _ w _ => c_s_GraphOk_t w hgt) (k := ?_) | refine E.b0 (α := Int) (fun v3 h3 => ?_) | refine E.b0 (α := Bool) (fun v4 h4 => ?_) | refine E.q3 ?_ | refine E.q ?_ | refine E.qs ?_ | refine E.q2 ?_ | refine E.q4 ?_ | refine E.tr ?_ | refine E.ap (fun _ _ => ?_) | refine E.b1 (fun _ _ => ?_) | refine E.b0 (fun _ _ => ?_) | refine E.bsn (fun _ _ => ?_) | refine E.mk (fun _ _ => ?_) | refine E.bxO (fun _ => ?_) | refine E.al (fun _ => ?_) | refine E.sbO ?_ | refine E.dq ?_ | refine E.ct ?_ | refine E.cf ?_ | refine E.cs (fun hh => ?_) (fun hh => ?_) | refine E.at_block_other rfl ?_)
    refine lq (fun z : Nat × V1 × V1 => z.1 ≤ g.ns.length) (fun z => [(5, .pl (.int .i64 (z.1 : Int))), (3, .pl z.2.1.1), (4, .pl z.2.2.1)]) (fun z => [ownF 3 z.2.1.1 (List.replicate z.1 (0 : Int)), ownF 4 z.2.2.1 (List.replicate z.1 true)]) (fun z => g.ns.length - z.1) (0, ⟨v3, h3⟩, ⟨v4, h4⟩) (Nat.zero_le _) (fun z hz => ?_)
    obtain ⟨k, ⟨v3, h3⟩, ⟨v4, h4⟩⟩ := z
    dsimp only at hz h3 h4 ⊢
    have hl3 : (List.replicate k (0 : Int)).length = k := List.length_replicate
    have hl4 : (List.replicate k true).length = k := List.length_replicate
    rcases Nat.lt_or_ge k g.ns.length with hlt | hge
    · repeat' (first | refine E.st ?_ | refine E.q3 ?_ | refine E.q ?_ | refine E.qs ?_ | refine E.q2 ?_ | refine E.q4 ?_ | refine E.tr ?_ | refine E.ap (fun _ _ => ?_) | refine E.b1 (fun _ _ => ?_) | refine E.b0 (fun _ _ => ?_) | refine E.bsn (fun _ _ => ?_) | refine E.mk (fun _ _ => ?_) | refine E.bxO (fun _ => ?_) | refine E.al (fun _ => ?_) | refine E.sbO ?_ | refine E.dq ?_ | refine E.ct ?_ | refine E.cf ?_ | refine E.cs (fun hh => ?_) (fun hh => ?_) | refine E.at_block_other rfl ?_)
      refine rd (α := Nat × V1 × V1) (k + 1, ⟨_, ?_⟩, ⟨_, ?_⟩) hlt (hK := KSub.ownF pk (by rw [List.replicate_succ']) (KSub.ownF pk (by rw [List.replicate_succ']) ks))
      · assumption
      · assumption
    have hke : k = g.ns.length := by omega
    subst hke
    repeat' (first | refine E.st ?_ | refine E.q3 ?_ | refine E.q ?_ | refine E.qs ?_ | refine E.q2 ?_ | refine E.q4 ?_ | refine E.tr ?_ | refine E.ap (fun _ _ => ?_) | refine E.b1 (fun _ _ => ?_) | refine E.b0 (fun _ _ => ?_) | refine E.bsn (fun _ _ => ?_) | refine E.mk (fun _ _ => ?_) | refine E.bxO (fun _ => ?_) | refine E.al (fun _ => ?_) | refine E.sbO ?_ | refine E.dq ?_ | refine E.ct ?_ | refine E.cf ?_ | refine E.cs (fun hh => ?_) (fun hh => ?_) | refine E.at_block_other rfl ?_)
    refine lq (fun z : Nat × List Bool × List Int => (1 ≤ z.1 ∧ z.2.1.length = g.ns.length ∧ z.2.2.length = g.ns.length) ∧ coreG (adjL g) (g.ns.length - z.1) z.1 z.2.1 z.2.2 = coreL (adjL g) g.ns.length) (fun z => [(6, .pl (.int .i64 (z.1 : Int)))]) (fun z => [ownF 3 v3 z.2.2, ownF 4 v4 z.2.1]) (fun z => g.ns.length - z.1) (1, List.replicate g.ns.length true, List.replicate g.ns.length 0) ⟨⟨Nat.le_refl _, by simp, by simp⟩, rfl⟩ (fun z hz => ?_)
    obtain ⟨k, left, out⟩ := z
    obtain ⟨⟨hk1, hll, hol⟩, hco⟩ := hz
    dsimp only at hk1 hll hol hco ⊢
    rcases Nat.lt_or_ge k g.ns.length with hlt | hge2
    · have hco2 : coreG (adjL g) (g.ns.length - (k + 1)) (k + 1) (peel (adjL g) k left) (coreM (peel (adjL g) k left) out k) = coreL (adjL g) g.ns.length := by
        rw [← hco, show g.ns.length - k = (g.ns.length - (k + 1)) + 1 from by omega]
        rfl
      have hpl := peel_len (adj := adjL g) (k := k) (left := left)
      obtain ⟨S, hS0, hSs, hSl, hSe⟩ := core_walk (peel (adjL g) k left) out k
      repeat' (first | refine E.st ?_ | refine E.ckp (h := fun K'' w hw => c_l3Peel (g := g) (k := k) (left := left) w hw hg hll (by omega)) (k := fun _ => ?_) | refine E.q3 ?_ | refine E.q ?_ | refine E.qs ?_ | refine E.q2 ?_ | refine E.q4 ?_ | refine E.tr ?_ | refine E.ap (fun _ _ => ?_) | refine E.b1 (fun _ _ => ?_) | refine E.b0 (fun _ _ => ?_) | refine E.bsn (fun _ _ => ?_) | refine E.mk (fun _ _ => ?_) | refine E.bxO (fun _ => ?_) | refine E.al (fun _ => ?_) | refine E.sbO ?_ | refine E.dq ?_ | refine E.ct ?_ | refine E.cf ?_ | refine E.cs (fun hh => ?_) (fun hh => ?_) | refine E.at_block_other rfl ?_)
      generalize peel (adjL g) k left = left2 at *
      refine lq (fun j : Nat => j ≤ left2.length) (fun j => [(7, .pl (.int .i64 (j : Int)))]) (fun j => [ownF 3 v3 (S j)]) (fun j => left2.length - j) 0 (Nat.zero_le _) (fun j hj => ?_) (hK := Spl.ownF pk hS0.symm (Spl.nil _))
      have hlj := hSl j
      rcases Nat.lt_or_ge j left2.length with hlt3 | hge3
      · have hbj : left2[j]? = some (left2.getD j false) := getD_at hlt3
        have hoj : (S j)[j]? = some ((S j).getD j 0) := getD_at (by omega)
        have hst := hSs j
        generalize left2.getD j false = c at hbj hst
        repeat' (first | refine E.st ?_ | refine E.q3 ?_ | refine E.q ?_ | refine E.qs ?_ | refine E.q2 ?_ | refine E.q4 ?_ | refine E.tr ?_ | refine E.ap (fun _ _ => ?_) | refine E.b1 (fun _ _ => ?_) | refine E.b0 (fun _ _ => ?_) | refine E.bsn (fun _ _ => ?_) | refine E.mk (fun _ _ => ?_) | refine E.bxO (fun _ => ?_) | refine E.al (fun _ => ?_) | refine E.sbO ?_ | refine E.dq ?_ | refine E.ct ?_ | refine E.cf ?_ | refine E.cs (fun hh => ?_) (fun hh => ?_) | refine E.at_block_other rfl ?_)
        · rw [if_pos (by assumption)] at hst
          exact rd (j + 1) hlt3 (hK := KSub.ownF pk hst.symm ks)
        · rw [if_neg (by simp [*])] at hst
          exact rd (j + 1) hlt3 (hK := KSub.ownF pk hst.symm ks)
      · repeat' (first | refine E.st ?_ | refine E.q3 ?_ | refine E.q ?_ | refine E.qs ?_ | refine E.q2 ?_ | refine E.q4 ?_ | refine E.tr ?_ | refine E.ap (fun _ _ => ?_) | refine E.b1 (fun _ _ => ?_) | refine E.b0 (fun _ _ => ?_) | refine E.bsn (fun _ _ => ?_) | refine E.mk (fun _ _ => ?_) | refine E.bxO (fun _ => ?_) | refine E.al (fun _ => ?_) | refine E.sbO ?_ | refine E.dq ?_ | refine E.ct ?_ | refine E.cf ?_ | refine E.cs (fun hh => ?_) (fun hh => ?_) | refine E.at_block_other rfl ?_)
        have hje : j = out.length := by omega
        subst hje
        refine rd (α := Nat × List Bool × List Int) (k + 1, left2, S out.length) ⟨⟨by omega, by dsimp only; omega, by dsimp only; omega⟩, by rw [hSe]; exact hco2⟩
    · repeat' (first | refine E.st ?_ | refine E.q3 ?_ | refine E.q ?_ | refine E.qs ?_ | refine E.q2 ?_ | refine E.q4 ?_ | refine E.tr ?_ | refine E.ap (fun _ _ => ?_) | refine E.b1 (fun _ _ => ?_) | refine E.b0 (fun _ _ => ?_) | refine E.bsn (fun _ _ => ?_) | refine E.mk (fun _ _ => ?_) | refine E.bxO (fun _ => ?_) | refine E.al (fun _ => ?_) | refine E.sbO ?_ | refine E.dq ?_ | refine E.ct ?_ | refine E.cf ?_ | refine E.cs (fun hh => ?_) (fun hh => ?_) | refine E.at_block_other rfl ?_)
      have h0 : g.ns.length - k = 0 := by omega
      rw [h0] at hco
      exact r1 (α := V1) ⟨v3, h3⟩ (hK := KSub.ownF pk hco (KSub.nil _))
  · have hgf := gok_f hg
    rw [if_neg hg]
    refine enter (args := _) Tryz.func82 rfl Tryz.ntmps82 (by simp) ?_
    repeat' (first | refine E.st ?_ | refine E.cl (h := fun _ w _ => c_s_GraphOk_f w hgf) (k := ?_) | refine E.b0 (α := Int) (fun v3 h3 => ?_) | refine E.q3 ?_ | refine E.q ?_ | refine E.qs ?_ | refine E.q2 ?_ | refine E.q4 ?_ | refine E.tr ?_ | refine E.ap (fun _ _ => ?_) | refine E.b1 (fun _ _ => ?_) | refine E.b0 (fun _ _ => ?_) | refine E.bsn (fun _ _ => ?_) | refine E.mk (fun _ _ => ?_) | refine E.bxO (fun _ => ?_) | refine E.al (fun _ => ?_) | refine E.sbO ?_ | refine E.dq ?_ | refine E.ct ?_ | refine E.cf ?_ | refine E.cs (fun hh => ?_) (fun hh => ?_) | refine E.at_block_other rfl ?_)
    exact r1 (α := V1) ⟨_, by assumption⟩
theorem pairs_le {adj : List (List Nat)} {a : Nat} : ∀ row : List Nat, row.length ≤ 40 → pairs1 adj a row ≤ 40 * row.length
  | [], _ => by simp [pairs1]
  | x :: row, h => by
    have h1 : row.length ≤ 40 := by simp at h; omega
    have h2 := pairs_le (adj := adj) (a := a) row h1
    have h3 : row.countP (fun y => decide (y ∈ adj.getD x [])) ≤ row.length := List.countP_le_length
    simp only [pairs1, List.length_cons]
    split <;> omega
/-- The threes whose least is at one of the first places. -/
def tsum (adj : List (List Nat)) (i : Nat) : Nat := ((List.range i).map (fun a => pairs1 adj a (adj.getD a []))).sum
theorem tsum_step {adj : List (List Nat)} {i : Nat} : tsum adj (i + 1) = tsum adj i + pairs1 adj i (adj.getD i []) := by
  simp [tsum, List.range_succ]
theorem tsum_all {n : Nat} {adj : List (List Nat)} (ha : AOk n adj) : tsum adj n = threesL adj := by
  unfold tsum threesL
  rw [ha.1]
  congr 1
  refine List.map_congr_left (fun a h => ?_)
  have hlt := List.mem_range.1 h
  obtain ⟨row, hr⟩ : ∃ r, adj[a]? = some r := ⟨_, List.getElem?_eq_getElem (by rw [ha.1]; exact hlt)⟩
  have hg : adj.getD a [] = row := by simp [List.getD_eq_getElem?_getD, hr]
  rw [hg]
  exact threes_eq ha hr
theorem pairs_drop {adj : List (List Nat)} {a : Nat} {row : List Nat} {j x : Nat} (h : row[j]? = some x) : pairs1 adj a (row.drop j) = (if a < x then (row.drop (j + 1)).countP (fun y => decide (y ∈ adj.getD x [])) else 0) + pairs1 adj a (row.drop (j + 1)) := by
  obtain ⟨hj, e⟩ := List.getElem?_eq_some_iff.1 h
  rw [List.drop_eq_getElem_cons hj, e]
  rfl
theorem join_iff {g : Gr} (hg : g.ok) {y z : Nd} (hy : y ∈ g.ns) (hz : z ∈ g.ns) : plc g.ns z ∈ (adjL g).getD (plc g.ns y) [] ↔ z ∈ nearL g.es y := by
  have h1 := plc_ok hy
  have h2 := plc_ok hz
  rw [List.getD_eq_getElem?_getD, adj_get h1.2.1]
  simp only [Option.getD_some, List.mem_map]
  constructor
  · rintro ⟨z', hz', e⟩
    have h3 := plc_ok (near_mem_ns hg hz').1
    rw [e, h2.2.1] at h3
    injection h3.2.1 with h
    rw [h]
    exact hz'
  · exact fun h => ⟨z, h, rfl⟩
theorem drop_countP {p : Nat → Bool} {R : List Nat} {m x : Nat} (h : R[m]? = some x) : (R.drop m).countP p = (if p x = true then 1 else 0) + (R.drop (m + 1)).countP p := by
  obtain ⟨hj, e⟩ := List.getElem?_eq_some_iff.1 h
  rw [List.drop_eq_getElem_cons hj, e, List.countP_cons]
  omega
theorem c_WalkThrees {v u : Value} {g : Gr} (w : World) (hr : RdF w v g.ns := by exact rdA) (hq : RdF w u g.es := by exact rdA) :
    Calls Tryz.prog 83 #[.agg #[v, u]] w (Ret (fun _ : Unit => .int .i64 (if g.ok then (threesL (adjL g) : Int) else 0)) (fun _ => []) w) := by
  have o1 := hr.one
  have o2 := hq.one
  by_cases hg : g.ok
  · have hgt := gok_t hg
    have hnl := hg.1.len
    have hel := hg.2.len
    have hA := AOk.of hg
    have he : ∀ e ∈ g.es, eok e = true := fun e h => (hg.2.1 e h).1
    rw [if_pos hg]
    refine enter (args := _) Tryz.func83 rfl Tryz.ntmps83 (by simp) ?_
    repeat' (first | refine E.st ?_ | refine E.cl (h := fun _ w _ => c_s_GraphOk_t w hgt) (k := ?_)  | refine E.q3 ?_ | refine E.q ?_ | refine E.qs ?_ | refine E.q2 ?_ | refine E.q4 ?_ | refine E.tr ?_ | refine E.ap (fun _ _ => ?_) | refine E.b1 (fun _ _ => ?_) | refine E.b0 (fun _ _ => ?_) | refine E.bsn (fun _ _ => ?_) | refine E.mk (fun _ _ => ?_) | refine E.bxO (fun _ => ?_) | refine E.al (fun _ => ?_) | refine E.sbO ?_ | refine E.dq ?_ | refine E.ct ?_ | refine E.cf ?_ | refine E.cs (fun hh => ?_) (fun hh => ?_) | refine E.at_block_other rfl ?_)
    refine lq (fun i : Nat => i ≤ g.ns.length ∧ tsum (adjL g) i ≤ 1600 * i) (fun i => [(4, .pl (.int .i64 (i : Int))), (3, .pl (.int .i64 ((tsum (adjL g) i : Nat) : Int)))]) (fun _ => []) (fun i => g.ns.length - i) 0 ⟨Nat.zero_le _, by simp [tsum]⟩ (fun i hi => ?_)
    obtain ⟨hi, hb⟩ := hi
    rcases Nat.lt_or_ge i g.ns.length with hlt | hge
    · obtain ⟨⟨xl, xn⟩, hx⟩ := get_lt hlt
      have hxm := List.mem_of_getElem? hx
      have hadj := adj_get hx
      have hrow : (adjL g).getD i [] = (nearL g.es ⟨xl, xn⟩).map (plc g.ns) := by rw [List.getD_eq_getElem?_getD, hadj]; rfl
      have hnl2 := near_len g.es ⟨xl, xn⟩
      have hrl := row_len (hA.2 i _ hadj).1 (hA.2 i _ hadj).2 hlt
      have hts := tsum_step (adj := adjL g) (i := i)
      rw [hrow] at hts
      have hpx := plc_at hg.1.nodup hx
      have hpb := pairs_le (adj := adjL g) (a := i) ((nearL g.es ⟨xl, xn⟩).map (plc g.ns)) (by omega)
      generalize tsum (adjL g) i = t0 at *
      repeat' (first | refine E.st ?_ | refine E.dx [0, 1, 2, 3, 4, 5, 6, 7] ?_ | refine E.cm (h := fun w _ => c_l2Near w he (by omega)) (k := fun v5 => ?_) | refine E.q3 ?_ | refine E.q ?_ | refine E.qs ?_ | refine E.q2 ?_ | refine E.q4 ?_ | refine E.tr ?_ | refine E.ap (fun _ _ => ?_) | refine E.b1 (fun _ _ => ?_) | refine E.b0 (fun _ _ => ?_) | refine E.bsn (fun _ _ => ?_) | refine E.mk (fun _ _ => ?_) | refine E.bxO (fun _ => ?_) | refine E.al (fun _ => ?_) | refine E.sbO ?_ | refine E.dq ?_ | refine E.ct ?_ | refine E.cf ?_ | refine E.cs (fun hh => ?_) (fun hh => ?_) | refine E.at_block_other rfl ?_)
      refine lq (fun z : Nat × Nat => z.1 ≤ (nearL g.es ⟨xl, xn⟩).length ∧ z.2 + pairs1 (adjL g) i (((nearL g.es ⟨xl, xn⟩).map (plc g.ns)).drop z.1) = t0 + pairs1 (adjL g) i ((nearL g.es ⟨xl, xn⟩).map (plc g.ns))) (fun z => [(6, .pl (.int .i64 (z.1 : Int))), (3, .pl (.int .i64 (z.2 : Int)))]) (fun _ => []) (fun z => (nearL g.es ⟨xl, xn⟩).length - z.1) (0, t0) ⟨Nat.zero_le _, by simp⟩ (fun z hz => ?_)
      obtain ⟨j, c⟩ := z
      obtain ⟨hj, hc⟩ := hz
      dsimp only at hj hc ⊢
      rcases Nat.lt_or_ge j (nearL g.es ⟨xl, xn⟩).length with hlt2 | hge2
      · obtain ⟨⟨yl, yn⟩, hy⟩ := get_lt hlt2
        have hym := (near_mem_ns hg (List.mem_of_getElem? hy)).1
        have hRy : ((nearL g.es ⟨xl, xn⟩).map (plc g.ns))[j]? = some (plc g.ns ⟨yl, yn⟩) := by rw [List.getElem?_map, hy]; rfl
        have hpd := pairs_drop (adj := adjL g) (a := i) hRy
        have hmono := plc_mono hg.1.ord hxm hym
        rw [hpx] at hmono
        rw [hpd] at hc
        repeat' (first | refine E.st ?_ | refine E.q3 ?_ | refine E.q ?_ | refine E.qs ?_ | refine E.q2 ?_ | refine E.q4 ?_ | refine E.tr ?_ | refine E.ap (fun _ _ => ?_) | refine E.b1 (fun _ _ => ?_) | refine E.b0 (fun _ _ => ?_) | refine E.bsn (fun _ _ => ?_) | refine E.mk (fun _ _ => ?_) | refine E.bxO (fun _ => ?_) | refine E.al (fun _ => ?_) | refine E.sbO ?_ | refine E.dq ?_ | refine E.ct ?_ | refine E.cf ?_ | refine E.cs (fun hh => ?_) (fun hh => ?_) | refine E.at_block_other rfl ?_)
        refine lq (fun z : Nat × Nat => (j + 1 ≤ z.1 ∧ z.1 ≤ (nearL g.es ⟨xl, xn⟩).length) ∧ z.2 + ((if i < plc g.ns ⟨yl, yn⟩ then (((nearL g.es ⟨xl, xn⟩).map (plc g.ns)).drop z.1).countP (fun y => decide (y ∈ (adjL g).getD (plc g.ns ⟨yl, yn⟩) [])) else 0) + pairs1 (adjL g) i (((nearL g.es ⟨xl, xn⟩).map (plc g.ns)).drop (j + 1))) = t0 + pairs1 (adjL g) i ((nearL g.es ⟨xl, xn⟩).map (plc g.ns))) (fun z => [(7, .pl (.int .i64 (z.1 : Int))), (3, .pl (.int .i64 (z.2 : Int)))]) (fun _ => []) (fun z => (nearL g.es ⟨xl, xn⟩).length - z.1) (j + 1, c) ⟨⟨Nat.le_refl _, hlt2⟩, hc⟩ (fun z hz => ?_)
        obtain ⟨m, c3⟩ := z
        obtain ⟨⟨hm1, hm2⟩, hc3⟩ := hz
        dsimp only at hm1 hm2 hc3 ⊢
        rcases Nat.lt_or_ge m (nearL g.es ⟨xl, xn⟩).length with hlt3 | hge3
        · obtain ⟨⟨zl, zn⟩, hz⟩ := get_lt hlt3
          have hzm := (near_mem_ns hg (List.mem_of_getElem? hz)).1
          have hRz : ((nearL g.es ⟨xl, xn⟩).map (plc g.ns))[m]? = some (plc g.ns ⟨zl, zn⟩) := by rw [List.getElem?_map, hz]; rfl
          have hji := join_iff hg hym hzm
          rw [drop_countP hRz] at hc3
          simp only [hji, decide_eq_true_eq] at hc3
          repeat' (first | refine E.st ?_ | refine E.cl (h := fun _ w _ => c_s_l2Code w) (k := ?_) | refine E.cl (h := fun _ w _ => c_l3Joined w hg) (k := ?_)  | refine E.q3 ?_ | refine E.q ?_ | refine E.qs ?_ | refine E.q2 ?_ | refine E.q4 ?_ | refine E.tr ?_ | refine E.ap (fun _ _ => ?_) | refine E.b1 (fun _ _ => ?_) | refine E.b0 (fun _ _ => ?_) | refine E.bsn (fun _ _ => ?_) | refine E.mk (fun _ _ => ?_) | refine E.bxO (fun _ => ?_) | refine E.al (fun _ => ?_) | refine E.sbO ?_ | refine E.dq ?_ | refine E.ct ?_ | refine E.cf ?_ | refine E.cs (fun hh => ?_) (fun hh => ?_) | refine E.at_block_other rfl ?_)
          · have h1 : i < plc g.ns ⟨yl, yn⟩ := hmono.2 hh.1
            have h2 : (⟨zl, zn⟩ : Nd) ∈ nearL g.es ⟨yl, yn⟩ := hh.2
            rw [if_pos h1, if_pos h2] at hc3
            refine rd (α := Nat × Nat) (m + 1, c3 + 1) ⟨⟨by omega, hlt3⟩, ?_⟩
            dsimp only
            rw [if_pos h1]
            omega
          · refine rd (α := Nat × Nat) (m + 1, c3) ⟨⟨by omega, hlt3⟩, ?_⟩
            dsimp only
            by_cases h1 : i < plc g.ns ⟨yl, yn⟩
            · have h2 : ¬ (⟨zl, zn⟩ : Nd) ∈ nearL g.es ⟨yl, yn⟩ := by
                rcases hh with h | h
                · exact absurd (hmono.1 h1) h
                · exact h
              rw [if_pos h1, if_neg h2] at hc3
              rw [if_pos h1]
              omega
            · rw [if_neg h1] at hc3
              rw [if_neg h1]
              exact hc3
        · repeat' (first | refine E.st ?_ | refine E.q3 ?_ | refine E.q ?_ | refine E.qs ?_ | refine E.q2 ?_ | refine E.q4 ?_ | refine E.tr ?_ | refine E.ap (fun _ _ => ?_) | refine E.b1 (fun _ _ => ?_) | refine E.b0 (fun _ _ => ?_) | refine E.bsn (fun _ _ => ?_) | refine E.mk (fun _ _ => ?_) | refine E.bxO (fun _ => ?_) | refine E.al (fun _ => ?_) | refine E.sbO ?_ | refine E.dq ?_ | refine E.ct ?_ | refine E.cf ?_ | refine E.cs (fun hh => ?_) (fun hh => ?_) | refine E.at_block_other rfl ?_)
          have hme : m = (nearL g.es ⟨xl, xn⟩).length := by omega
          subst hme
          rw [List.drop_of_length_le (by simp)] at hc3
          refine rd (α := Nat × Nat) (j + 1, c3) ⟨hlt2, ?_⟩
          simpa using hc3
      · repeat' (first | refine E.st ?_ | refine E.q3 ?_ | refine E.q ?_ | refine E.qs ?_ | refine E.q2 ?_ | refine E.q4 ?_ | refine E.tr ?_ | refine E.ap (fun _ _ => ?_) | refine E.b1 (fun _ _ => ?_) | refine E.b0 (fun _ _ => ?_) | refine E.bsn (fun _ _ => ?_) | refine E.mk (fun _ _ => ?_) | refine E.bxO (fun _ => ?_) | refine E.al (fun _ => ?_) | refine E.sbO ?_ | refine E.dq ?_ | refine E.ct ?_ | refine E.cf ?_ | refine E.cs (fun hh => ?_) (fun hh => ?_) | refine E.at_block_other rfl ?_)
        rw [List.drop_of_length_le (by simp; omega)] at hc
        have hc' : c = t0 + pairs1 (adjL g) i ((nearL g.es ⟨xl, xn⟩).map (plc g.ns)) := by simpa [pairs1] using hc
        refine rd (i + 1) ⟨hlt, by omega⟩ (hF := FSub.int rfl (by omega) (FSub.int rfl (by omega) fs))
    · have hie : i = g.ns.length := by omega
      subst hie
      rw [tsum_all hA]
      repeat' (first | refine E.st ?_ | refine E.q3 ?_ | refine E.q ?_ | refine E.qs ?_ | refine E.q2 ?_ | refine E.q4 ?_ | refine E.tr ?_ | refine E.ap (fun _ _ => ?_) | refine E.b1 (fun _ _ => ?_) | refine E.b0 (fun _ _ => ?_) | refine E.bsn (fun _ _ => ?_) | refine E.mk (fun _ _ => ?_) | refine E.bxO (fun _ => ?_) | refine E.al (fun _ => ?_) | refine E.sbO ?_ | refine E.dq ?_ | refine E.ct ?_ | refine E.cf ?_ | refine E.cs (fun hh => ?_) (fun hh => ?_) | refine E.at_block_other rfl ?_)
      exact ri
  · have hgf := gok_f hg
    rw [if_neg hg]
    refine enter (args := _) Tryz.func83 rfl Tryz.ntmps83 (by simp) ?_
    repeat' (first | refine E.st ?_ | refine E.cl (h := fun _ w _ => c_s_GraphOk_f w hgf) (k := ?_)  | refine E.q3 ?_ | refine E.q ?_ | refine E.qs ?_ | refine E.q2 ?_ | refine E.q4 ?_ | refine E.tr ?_ | refine E.ap (fun _ _ => ?_) | refine E.b1 (fun _ _ => ?_) | refine E.b0 (fun _ _ => ?_) | refine E.bsn (fun _ _ => ?_) | refine E.mk (fun _ _ => ?_) | refine E.bxO (fun _ => ?_) | refine E.al (fun _ => ?_) | refine E.sbO ?_ | refine E.dq ?_ | refine E.ct ?_ | refine E.cf ?_ | refine E.cs (fun hh => ?_) (fun hh => ?_) | refine E.at_block_other rfl ?_)
    exact ri
theorem c_s_QueryOk {k l n : Int} (w : World) : Calls Tryz.prog 37 #[.agg #[.int .i64 k, .int .i64 l, .int .i64 n]] w (Ret (fun _ : Unit => .bool (qok ⟨k, ⟨l, n⟩⟩)) (fun _ => []) w) := by
  refine enter (args := _) Tryz.func37 rfl Tryz.ntmps37 (by simp) ?_
  repeat' (first | refine E.st ?_ | refine E.cl (h := fun _ w _ => c_s_NodeOk w) (k := ?_)  | refine E.q3 ?_ | refine E.q ?_ | refine E.qs ?_ | refine E.q2 ?_ | refine E.q4 ?_ | refine E.tr ?_ | refine E.ap (fun _ _ => ?_) | refine E.b1 (fun _ _ => ?_) | refine E.b0 (fun _ _ => ?_) | refine E.bsn (fun _ _ => ?_) | refine E.mk (fun _ _ => ?_) | refine E.bxO (fun _ => ?_) | refine E.al (fun _ => ?_) | refine E.sbO ?_ | refine E.dq ?_ | refine E.ct ?_ | refine E.cf ?_ | refine E.cs (fun hh => ?_) (fun hh => ?_) | refine E.at_block_other rfl ?_)
  all_goals (refine rb ?_; simp_all [qok])
theorem c_s_QueryOk_t {k l n : Int} (w : World) (h : qok ⟨k, ⟨l, n⟩⟩ = true) : Calls Tryz.prog 37 #[.agg #[.int .i64 k, .int .i64 l, .int .i64 n]] w (Ret (fun _ : Unit => .bool true) (fun _ => []) w) := by
  have := c_s_QueryOk (k := k) (l := l) (n := n) w
  rwa [h] at this
theorem c_s_QueryOk_f {k l n : Int} (w : World) (h : qok ⟨k, ⟨l, n⟩⟩ = false) : Calls Tryz.prog 37 #[.agg #[.int .i64 k, .int .i64 l, .int .i64 n]] w (Ret (fun _ : Unit => .bool false) (fun _ => []) w) := by
  have := c_s_QueryOk (k := k) (l := l) (n := n) w
  rwa [h] at this
theorem qok_four {k : Int} {x : Nd} (h : qok ⟨k, x⟩ = true) : k = 1 ∨ k = 2 ∨ k = 3 ∨ k = 4 := by
  unfold qok at h
  dsimp only at h
  split at h
  · omega
  · split at h
    · omega
    · cases h
theorem c_s_QueryAsk {v u : Value} {g : Gr} {k l n : Int} (w : World) (hr : RdF w v g.ns := by exact rdA) (hq : RdF w u g.es := by exact rdA) :
    Calls Tryz.prog 27 #[.agg #[v, u], .agg #[.int .i64 k, .int .i64 l, .int .i64 n]] w (Ret (fun z : V1 => z.1) (fun z => [ownF 3 z.1 (askL g ⟨k, ⟨l, n⟩⟩)]) w) := by
  have o1 := hr.one
  have o2 := hq.one
  by_cases hg : g.ok
  · have hgt := gok_t hg
    have hnl := hg.1.len
    have hel := hg.2.len
    have he : ∀ e ∈ g.es, eok e = true := fun e h => (hg.2.1 e h).1
    have hnl2 := near_len g.es ⟨l, n⟩
    cases hqk : qok ⟨k, ⟨l, n⟩⟩ with
    | false =>
      have ha : askL g ⟨k, ⟨l, n⟩⟩ = [] := if_neg (fun h => by rw [hqk] at h; cases h.2)
      rw [ha]
      refine enter (args := _) Tryz.func27 rfl Tryz.ntmps27 (by simp) ?_
      repeat' (first | refine E.st ?_ | refine E.cl (h := fun _ w _ => c_s_GraphOk_t w hgt) (k := ?_) | refine E.cl (h := fun _ w _ => c_s_QueryOk_f w hqk) (k := ?_) | refine E.b0 (α := Int) (fun v3 h3 => ?_) | refine E.q3 ?_ | refine E.q ?_ | refine E.qs ?_ | refine E.q2 ?_ | refine E.q4 ?_ | refine E.tr ?_ | refine E.ap (fun _ _ => ?_) | refine E.b1 (fun _ _ => ?_) | refine E.b0 (fun _ _ => ?_) | refine E.bsn (fun _ _ => ?_) | refine E.mk (fun _ _ => ?_) | refine E.bxO (fun _ => ?_) | refine E.al (fun _ => ?_) | refine E.sbO ?_ | refine E.dq ?_ | refine E.ct ?_ | refine E.cf ?_ | refine E.cs (fun hh => ?_) (fun hh => ?_) | refine E.at_block_other rfl ?_)
      all_goals first
        | exact r1 (α := V1) ⟨_, by assumption⟩
        | (exfalso; simp_all; done)

    | true =>
      have ha : askL g ⟨k, ⟨l, n⟩⟩ = askG g ⟨k, ⟨l, n⟩⟩ := if_pos ⟨hg, hqk⟩
      have h4 := qok_four hqk
      rw [ha]
      unfold askG
      dsimp only
      refine enter (args := _) Tryz.func27 rfl Tryz.ntmps27 (by simp) ?_
      repeat' (first | refine E.st ?_ | refine E.cl (h := fun _ w _ => c_s_GraphOk_t w hgt) (k := ?_) | refine E.cl (h := fun _ w _ => c_s_QueryOk_t w hqk) (k := ?_) | refine E.b0 (α := Int) (fun v3 h3 => ?_) | refine E.cm (h := fun w _ => c_l2Near w he (by omega)) (k := fun v5 => ?_) | refine E.cm (h := fun w _ => c_l4Codes (ns := nearL g.es ⟨l, n⟩) w (by omega)) (k := fun z => E.wy z.2 (fun _ => ?_)) | refine E.cm (h := fun w _ => c_WalkDist (g := g) w) (k := fun z => E.wy z.2 (fun _ => ?_)) | refine E.cm (h := fun w _ => c_WalkCore (g := g) w) (k := fun z => E.wy z.2 (fun _ => ?_)) | refine E.cl (h := fun _ w _ => c_WalkThrees (g := g) w) (k := ?_) | refine E.b1 (α := Int) (fun v9 h9 => ?_) | refine E.q3 ?_ | refine E.q ?_ | refine E.qs ?_ | refine E.q2 ?_ | refine E.q4 ?_ | refine E.tr ?_ | refine E.ap (fun _ _ => ?_) | refine E.b1 (fun _ _ => ?_) | refine E.b0 (fun _ _ => ?_) | refine E.bsn (fun _ _ => ?_) | refine E.mk (fun _ _ => ?_) | refine E.bxO (fun _ => ?_) | refine E.al (fun _ => ?_) | refine E.sbO ?_ | refine E.dq ?_ | refine E.ct ?_ | refine E.cf ?_ | refine E.cs (fun hh => ?_) (fun hh => ?_) | refine E.at_block_other rfl ?_)
      all_goals first
        | exact r1 (α := V1) ⟨_, by assumption⟩ (hK := KSub.ownF pk (by simp_all) ks)
        | (exfalso; simp_all; done)

  · have hgf := gok_f hg
    have ha : askL g ⟨k, ⟨l, n⟩⟩ = [] := if_neg (fun h => hg h.1)
    rw [ha]
    refine enter (args := _) Tryz.func27 rfl Tryz.ntmps27 (by simp) ?_
    repeat' (first | refine E.st ?_ | refine E.cl (h := fun _ w _ => c_s_GraphOk_f w hgf) (k := ?_) | refine E.cl (h := fun _ w _ => c_s_QueryOk w) (k := ?_) | refine E.b0 (α := Int) (fun v3 h3 => ?_) | refine E.q3 ?_ | refine E.q ?_ | refine E.qs ?_ | refine E.q2 ?_ | refine E.q4 ?_ | refine E.tr ?_ | refine E.ap (fun _ _ => ?_) | refine E.b1 (fun _ _ => ?_) | refine E.b0 (fun _ _ => ?_) | refine E.bsn (fun _ _ => ?_) | refine E.mk (fun _ _ => ?_) | refine E.bxO (fun _ => ?_) | refine E.al (fun _ => ?_) | refine E.sbO ?_ | refine E.dq ?_ | refine E.ct ?_ | refine E.cf ?_ | refine E.cs (fun hh => ?_) (fun hh => ?_) | refine E.at_block_other rfl ?_)
    all_goals first
      | exact r1 (α := V1) ⟨_, by assumption⟩
      | (exfalso; simp_all; done)

end E
end Go.Proofs.YtpiiapoafmnhhaaGreat
/- The program's walks: places, steps, peeling. -/
namespace Go.Proofs.YtpiiapoafmnhhaaGreat
namespace E
open Go Go.RowKit
set_option linter.unusedSimpArgs false
set_option linter.unusedVariables false
set_option maxHeartbeats 1000000
set_option maxRecDepth 10000
attribute [local irreducible] HC HL HQ HX HO At Y YV Opd Opds KnX Sl Ld Src GV RV Calls Code.wp eptr adr RdF ownF OneX HG LdC
instance : Flat Sv := ⟨1, fun x => [.slice x.a x.n x.c], fun _ => rfl, fun _ u h => by simp only [List.mem_cons, List.mem_nil_iff, or_false] at h; subst h; rfl⟩
instance (A : Option Addr) (n c : Nat) : MkI Sv [.slice A n c] ⟨A, n, c⟩ := ⟨rfl⟩
instance : ElT Tryz.prog 48 Sv := ⟨trivial⟩
theorem c_i_NodeOk_t {l n : Int} (w : World) (h : nok ⟨l, n⟩ = true) : Calls Tryz.prog 99 #[.agg #[.int .i64 l, .int .i64 n]] w (Ret (fun _ : Unit => .bool true) (fun _ => []) w) := by
  have := c_i_NodeOk (l := l) (n := n) w
  rwa [h] at this
theorem c_i_NodeOk_f {l n : Int} (w : World) (h : nok ⟨l, n⟩ = false) : Calls Tryz.prog 99 #[.agg #[.int .i64 l, .int .i64 n]] w (Ret (fun _ : Unit => .bool false) (fun _ => []) w) := by
  have := c_i_NodeOk (l := l) (n := n) w
  rwa [h] at this
/-- Places as the program holds them. -/
def zL (r : List Nat) : List Int := r.map (fun j : Nat => (j : Int))
theorem zL_len {r : List Nat} : (zL r).length = r.length := by simp [zL]
theorem zL_get {r : List Nat} {k j : Nat} (h : r[k]? = some j) : (zL r)[k]? = some (j : Int) := by simp [zL, h]
theorem zL_snoc {r : List Nat} {j : Nat} : zL (r ++ [j]) = zL r ++ [(j : Int)] := by simp [zL]
instance : Nst (List Nat) Sv Int := ⟨fun s => s, zL, fun _ _ => True⟩
theorem bs_place {ns : List Nd} {t : Nd} {m : Nat} (ho : Ord ns) (h : t ∈ ns) (h1 : ∀ (i : Nat) x, ns[i]? = some x → i < m → code x < code t) (h2 : ∀ (i : Nat) x, ns[i]? = some x → m ≤ i → code t ≤ code x) : m = plc ns t := by
  have hp := plc_ok h
  rcases Nat.lt_trichotomy m (plc ns t) with hlt | he | hgt
  · obtain ⟨y, hy⟩ := get_lt (xs := ns) (k := m) (by omega)
    have a := h2 m y hy (Nat.le_refl _)
    obtain ⟨q1, e1⟩ := List.getElem?_eq_some_iff.1 hy
    obtain ⟨q2, e2⟩ := List.getElem?_eq_some_iff.1 hp.2.1
    have b := (List.pairwise_iff_getElem.1 ho.code) m (plc ns t) q1 q2 hlt
    rw [e1, e2] at b
    omega
  · exact he
  · have := h1 _ _ hp.2.1 hgt
    omega
theorem c_bsN_yes {v : Value} {ns : List Nd} {l n : Int} (w : World) (ho : NOk ns) (ht : (⟨l, n⟩ : Nd) ∈ ns) (hr : RdF w v ns := by exact rdA) :
    Calls Tryz.prog 162 #[v, .agg #[.int .i64 l, .int .i64 n], .func (.func 136) #[] #[]] w (Ret (fun _ : Unit => .tuple #[.int .i64 ((plc ns ⟨l, n⟩ : Nat) : Int), .bool true]) (fun _ => []) w) := by
  have hnl := ho.len
  have hn := ho.1 _ ht
  obtain ⟨m, m1, m2, m3⟩ := parts code ns (code ⟨l, n⟩) ho.ord.code
  have hm := bs_place ho.ord ht m2 m3
  have hc := c_bsN (v := v) (ns := ns) (l := l) (n := n) m w m1 m2 m3 (by omega) hr
  rw [hm, (plc_ok ht).2.1] at hc
  dsimp only at hc
  rw [decide_eq_true rfl] at hc
  exact hc
theorem c_bsN_no {v : Value} {ns : List Nd} {l n : Int} (w : World) (ho : NOk ns) (hn : nok ⟨l, n⟩ = true) (ht : (⟨l, n⟩ : Nd) ∉ ns) : ∃ m : Nat, ∀ (w' : World), RdF w' v ns →
    Calls Tryz.prog 162 #[v, .agg #[.int .i64 l, .int .i64 n], .func (.func 136) #[] #[]] w' (Ret (fun _ : Unit => .tuple #[.int .i64 (m : Int), .bool false]) (fun _ => []) w') := by
  have hnl := ho.len
  obtain ⟨m, m1, m2, m3⟩ := parts code ns (code ⟨l, n⟩) ho.ord.code
  refine ⟨m, fun w' hr => ?_⟩
  have hat := at_m ho.ord hn m2 m3
  have hc := c_bsN (v := v) (ns := ns) (l := l) (n := n) m w' m1 m2 m3 (by omega) hr
  cases hx : ns[m]? with
  | none =>
    rw [hx] at hc
    exact hc
  | some y =>
    rw [hx] at hc hat
    dsimp only at hc hat
    rw [hat, decide_eq_false ht] at hc
    exact hc
theorem c_nodePlace {v u : Value} {ns : List Nd} {l n : Int} (w : World) (ho : NOk ns) (hr : RdF w v ns := by exact rdA) (hu : u.oneCell' = true := by assumption) :
    Calls Tryz.prog 138 #[.agg #[v, u], .agg #[.int .i64 l, .int .i64 n]] w (Ret (fun _ : Unit => .int .i64 (pos ns ⟨l, n⟩)) (fun _ => []) w) := by
  have o1 := hr.one
  cases ht : nok ⟨l, n⟩ with
  | true =>
    by_cases hm : (⟨l, n⟩ : Nd) ∈ ns
    · rw [(plc_ok hm).1]
      refine enter (args := _) Tryz.func138 rfl Tryz.ntmps138 (by simp) ?_
      repeat' (first | refine E.st ?_ | refine E.cl (h := fun _ w _ => c_i_NodeOk_t w ht) (k := ?_) | refine E.cl (h := fun _ w _ => c_bsN_yes w ho hm) (k := ?_)  | refine E.q3 ?_ | refine E.q ?_ | refine E.qs ?_ | refine E.q2 ?_ | refine E.q4 ?_ | refine E.tr ?_ | refine E.ap (fun _ _ => ?_) | refine E.b1 (fun _ _ => ?_) | refine E.b0 (fun _ _ => ?_) | refine E.bsn (fun _ _ => ?_) | refine E.mk (fun _ _ => ?_) | refine E.bxO (fun _ => ?_) | refine E.al (fun _ => ?_) | refine E.sbO ?_ | refine E.dq ?_ | refine E.ct ?_ | refine E.cf ?_ | refine E.cs (fun hh => ?_) (fun hh => ?_) | refine E.at_block_other rfl ?_)
      exact ri
    · rw [pos_none hm]
      obtain ⟨m, hc⟩ := c_bsN_no (v := v) w ho ht hm
      refine enter (args := _) Tryz.func138 rfl Tryz.ntmps138 (by simp) ?_
      repeat' (first | refine E.st ?_ | refine E.cl (h := fun _ w _ => c_i_NodeOk_t w ht) (k := ?_) | refine E.cl (h := fun _ w hw => hc w (hr.now hw)) (k := ?_) | refine E.q3 ?_ | refine E.q ?_ | refine E.qs ?_ | refine E.q2 ?_ | refine E.q4 ?_ | refine E.tr ?_ | refine E.ap (fun _ _ => ?_) | refine E.b1 (fun _ _ => ?_) | refine E.b0 (fun _ _ => ?_) | refine E.bsn (fun _ _ => ?_) | refine E.mk (fun _ _ => ?_) | refine E.bxO (fun _ => ?_) | refine E.al (fun _ => ?_) | refine E.sbO ?_ | refine E.dq ?_ | refine E.ct ?_ | refine E.cf ?_ | refine E.cs (fun hh => ?_) (fun hh => ?_) | refine E.at_block_other rfl ?_)
      exact ri
  | false =>
    have hp : pos ns ⟨l, n⟩ = -1 := pos_none (fun h => by rw [ho.1 _ h] at ht; cases ht)
    rw [hp]
    refine enter (args := _) Tryz.func138 rfl Tryz.ntmps138 (by simp) ?_
    repeat' (first | refine E.st ?_ | refine E.cl (h := fun _ w _ => c_i_NodeOk_f w ht) (k := ?_)  | refine E.q3 ?_ | refine E.q ?_ | refine E.qs ?_ | refine E.q2 ?_ | refine E.q4 ?_ | refine E.tr ?_ | refine E.ap (fun _ _ => ?_) | refine E.b1 (fun _ _ => ?_) | refine E.b0 (fun _ _ => ?_) | refine E.bsn (fun _ _ => ?_) | refine E.mk (fun _ _ => ?_) | refine E.bxO (fun _ => ?_) | refine E.al (fun _ => ?_) | refine E.sbO ?_ | refine E.dq ?_ | refine E.ct ?_ | refine E.cf ?_ | refine E.cs (fun hh => ?_) (fun hh => ?_) | refine E.at_block_other rfl ?_)
    exact ri
theorem c_nodePlace_m {v u : Value} {ns : List Nd} {l n : Int} (w : World) (ho : NOk ns) (hm : (⟨l, n⟩ : Nd) ∈ ns) (hr : RdF w v ns := by exact rdA) (hu : u.oneCell' = true := by assumption) :
    Calls Tryz.prog 138 #[.agg #[v, u], .agg #[.int .i64 l, .int .i64 n]] w (Ret (fun _ : Unit => .int .i64 ((plc ns ⟨l, n⟩ : Nat) : Int)) (fun _ => []) w) := by
  have := c_nodePlace (u := u) w ho hr hu (l := l) (n := n)
  rwa [(plc_ok hm).1] at this
theorem row_walk2 {n i0 i k : Nat} {adj : List (List Nat)} {s : Bf} (ha : AOk n adj) (h : BI n i0 s) (hk : s.mt[k]? = some i) : ∃ S : Nat → Bf, S 0 = s ∧ (∀ j o, (adj.getD i [])[j]? = some o → S (j + 1) = bfIn (s.st.getD i 0) (S j) o) ∧ (∀ j, BI n i0 (S j) ∧ s.mt.length ≤ (S j).mt.length ∧ (S j).st.getD i 0 = s.st.getD i 0) ∧ ∀ j, (adj.getD i []).length ≤ j → S j = bfRow adj s i := by
  have hi := h.at hk
  have hrow : ∀ o ∈ adj.getD i [], o < n := by
    intro o ho
    have hlt : i < adj.length := by rw [ha.1]; exact hi.1
    exact ((ha.2 i _ (getD_at (d := []) hlt)).1 o ho).1
  refine ⟨fun j => ((adj.getD i []).take j).foldl (bfIn (s.st.getD i 0)) s, rfl, fun j o ho => foldl_take_succ _ _ ho, fun j => ?_, fun j hj => ?_⟩
  · have := BI.fold ((adj.getD i []).take j) h hi.2 (fun o ho => hrow o (List.mem_of_mem_take ho))
    exact ⟨this.1, this.2.1, this.2.2 i hi.1 hi.2.1⟩
  · dsimp only
    rw [List.take_of_length_le hj]
    rfl
/-- What the program's search hands back. -/
theorem c_stepsFrom {v : Value} {adj : List (List Nat)} {n i : Nat} (w : World) (hA : AOk n adj) (hn : n ≤ 1000) (hi : i < n) (hr : RdN w v adj := by exact rdN) :
    Calls Tryz.prog 139 #[v, .int .i64 (i : Int)] w (Ret (fun z : { p : Value × Value // p.1.oneCell' = true ∧ p.2.oneCell' = true } => .tuple #[z.1.1, z.1.2]) (fun z => [ownF 3 z.1.1 (bfs adj n i).st, ownF 3 z.1.2 (zL (bfs adj n i).mt)]) w) := by
  obtain ⟨xs, hx0, ⟨hl, hM⟩, hin⟩ := hr
  have hal := hA.1
  have o1 := hx0.one
  have hB0 := BI.zero hi
  have hll : xs.length = n := by omega
  refine enter (args := _) Tryz.func139 rfl Tryz.ntmps139 (by simp) ?_
  repeat' (first | refine E.st ?_ | refine E.mk (α := Int) (z' := 0) (fun v6 h6 => ?_) | refine E.q3 ?_ | refine E.q ?_ | refine E.qs ?_ | refine E.q2 ?_ | refine E.q4 ?_ | refine E.tr ?_ | refine E.ap (fun _ _ => ?_) | refine E.b1 (fun _ _ => ?_) | refine E.b0 (fun _ _ => ?_) | refine E.bsn (fun _ _ => ?_) | refine E.mk (fun _ _ => ?_) | refine E.bxO (fun _ => ?_) | refine E.al (fun _ => ?_) | refine E.sbO ?_ | refine E.dq ?_ | refine E.ct ?_ | refine E.cf ?_ | refine E.cs (fun hh => ?_) (fun hh => ?_) | refine E.at_block_other rfl ?_)
  have hl1 : (List.replicate xs.length (0 : Int)).length = xs.length := List.length_replicate
  refine lq (fun j : Nat => j ≤ xs.length) (fun j => [(18, .pl (.int .i64 (j : Int)))]) (fun j => [ownF 3 v6 (List.replicate j (-1 : Int) ++ List.replicate (xs.length - j) 0)]) (fun j => xs.length - j) 0 (Nat.zero_le _) (fun j hj => ?_) (hK := Spl.ownF pk (by simp) (Spl.nil _))
  have hl2 : (List.replicate j (-1 : Int) ++ List.replicate (xs.length - j) 0).length = xs.length := by simp; omega
  rcases Nat.lt_or_ge j xs.length with hlt | hge
  · have hg : (List.replicate j (-1 : Int) ++ List.replicate (xs.length - j) 0)[j]? = some 0 := by
      rw [List.getElem?_append_right (by simp), List.getElem?_replicate]
      simp; omega
    have hset : (List.replicate j (-1 : Int) ++ List.replicate (xs.length - j) 0).set j (-1) = List.replicate (j + 1) (-1 : Int) ++ List.replicate (xs.length - (j + 1)) 0 := by
      rw [List.set_append_right _ _ (by simp), List.length_replicate, Nat.sub_self, show xs.length - j = (xs.length - (j + 1)) + 1 from by omega, List.replicate_succ, List.set_cons_zero, List.replicate_succ', List.append_assoc]
      rfl
    repeat' (first | refine E.st ?_ | refine E.q3 ?_ | refine E.q ?_ | refine E.qs ?_ | refine E.q2 ?_ | refine E.q4 ?_ | refine E.tr ?_ | refine E.ap (fun _ _ => ?_) | refine E.b1 (fun _ _ => ?_) | refine E.b0 (fun _ _ => ?_) | refine E.bsn (fun _ _ => ?_) | refine E.mk (fun _ _ => ?_) | refine E.bxO (fun _ => ?_) | refine E.al (fun _ => ?_) | refine E.sbO ?_ | refine E.dq ?_ | refine E.ct ?_ | refine E.cf ?_ | refine E.cs (fun hh => ?_) (fun hh => ?_) | refine E.at_block_other rfl ?_)
    exact rd (j + 1) hlt (hK := KSub.ownF pk hset ks)
  have hje : j = xs.length := by omega
  subst hje
  simp only [Nat.sub_self, List.replicate_zero, List.append_nil]
  have hg0 : (List.replicate xs.length (-1 : Int))[i]? = some (-1) := by
    rw [List.getElem?_replicate, if_pos (by omega)]
  have hl3 : (List.replicate xs.length (-1 : Int)).length = xs.length := List.length_replicate
  repeat' (first | refine E.st ?_ | refine E.b1 (α := Int) (fun v8 h8 => ?_) | refine E.q3 ?_ | refine E.q ?_ | refine E.qs ?_ | refine E.q2 ?_ | refine E.q4 ?_ | refine E.tr ?_ | refine E.ap (fun _ _ => ?_) | refine E.b1 (fun _ _ => ?_) | refine E.b0 (fun _ _ => ?_) | refine E.bsn (fun _ _ => ?_) | refine E.mk (fun _ _ => ?_) | refine E.bxO (fun _ => ?_) | refine E.al (fun _ => ?_) | refine E.sbO ?_ | refine E.dq ?_ | refine E.ct ?_ | refine E.cf ?_ | refine E.cs (fun hh => ?_) (fun hh => ?_) | refine E.at_block_other rfl ?_)
  have hst0 : (List.replicate xs.length (-1 : Int)).set i 0 = (bf0 n i).st := by rw [hll]; rfl
  refine lq (fun z : (Nat × Bf) × V1 => (BI n i z.1.2 ∧ z.1.1 ≤ z.1.2.mt.length) ∧ bfGo adj (n - z.1.1) z.1.1 z.1.2 = bfs adj n i) (fun z => [(9, .pl (.int .i64 (z.1.1 : Int))), (8, .pl z.2.1)]) (fun z => [ownF 3 v6 z.1.2.st, ownF 3 z.2.1 (zL z.1.2.mt)]) (fun z => n - z.1.1) ((0, bf0 n i), ⟨v8, h8⟩) ⟨⟨hB0, Nat.zero_le _⟩, rfl⟩ (fun z hz => ?_) (hK := Spl.ownF pk hst0 (Spl.ownF pk rfl (Spl.nil _)))
  obtain ⟨⟨k, s⟩, ⟨v8, h8⟩⟩ := z
  obtain ⟨⟨hB, hk⟩, hgo⟩ := hz
  dsimp only at hB hk hgo ⊢
  have hml := hB.mlen
  have hl7 : (zL s.mt).length = s.mt.length := zL_len
  have hsl := hB.len
  rcases Nat.lt_or_ge k s.mt.length with hlt | hge2
  · obtain ⟨i', hi'⟩ := get_lt hlt
    have hat := hB.at hi'
    have hm' := zL_get hi'
    obtain ⟨x, hx⟩ := get_lt (xs := xs) (k := i') (by omega)
    have hrw : adj[i']? = some (adj.getD i' []) := getD_at (by omega)
    have hin2 := hin i' x _ hx hrw
    change RdF w (.slice x.a x.n x.c) (zL (adj.getD i' [])) at hin2
    obtain ⟨S, hS0, hSs, hSB, hSe⟩ := row_walk2 hA hB hi'
    have hgo2 : bfGo adj (n - (k + 1)) (k + 1) (bfRow adj s i') = bfs adj n i := by
      rw [← hgo, show n - k = (n - (k + 1)) + 1 from by omega, bfGo_step hi']
    have hd := hat.2
    have hAr := hA.2 i' _ hrw
    generalize s.st.getD i' 0 = d at hSs hd hSB
    generalize adj.getD i' [] = row at *
    have hzl : (zL row).length = row.length := zL_len
    have hrl : row.length < n := row_len hAr.1 hAr.2 hat.1
    repeat' (first | refine E.st ?_ | refine E.q3 ?_ | refine E.q ?_ | refine E.qs ?_ | refine E.q2 ?_ | refine E.q4 ?_ | refine E.tr ?_ | refine E.ap (fun _ _ => ?_) | refine E.b1 (fun _ _ => ?_) | refine E.b0 (fun _ _ => ?_) | refine E.bsn (fun _ _ => ?_) | refine E.mk (fun _ _ => ?_) | refine E.bxO (fun _ => ?_) | refine E.al (fun _ => ?_) | refine E.sbO ?_ | refine E.dq ?_ | refine E.ct ?_ | refine E.cf ?_ | refine E.cs (fun hh => ?_) (fun hh => ?_) | refine E.at_block_other rfl ?_)
    refine lq (fun z : Nat × V1 => z.1 ≤ row.length) (fun z => [(45, .pl (.int .i64 (z.1 : Int))), (8, .pl z.2.1)]) (fun z => [ownF 3 v6 (S z.1).st, ownF 3 z.2.1 (zL (S z.1).mt)]) (fun z => row.length - z.1) (0, ⟨v8, h8⟩) (Nat.zero_le _) (fun z hz => ?_) (hK := Spl.ownF pk (by rw [hS0]) (Spl.ownF pk (by rw [hS0]) (Spl.nil _)))
    obtain ⟨j, ⟨u7, g7⟩⟩ := z
    dsimp only at hz g7 ⊢
    obtain ⟨hBj, hlj, hdj⟩ := hSB j
    have hmj := hBj.mlen
    have hsj := hBj.len
    have hl8 : (zL (S j).mt).length = (S j).mt.length := zL_len
    have hil : i' < (S j).st.length := by omega
    have hid : (S j).st[i']? = some d := by rw [← hdj]; exact getD_at hil
    rcases Nat.lt_or_ge j row.length with hlt3 | hge3
    · obtain ⟨o, hy⟩ := get_lt hlt3
      have hyz := zL_get hy
      have hol := (hAr.1 o (List.mem_of_getElem? hy)).1
      have hyl : o < (S j).st.length := by omega
      have hys : (S j).st[o]? = some ((S j).st.getD o 0) := getD_at hyl
      have hstep := hSs j o hy
      unfold bfIn at hstep
      have hsn := zL_snoc (r := (S j).mt) (j := o)
      generalize (S j).st.getD o 0 = c at hys hstep
      repeat' (first | refine E.st ?_ | refine E.q3 ?_ | refine E.q ?_ | refine E.qs ?_ | refine E.q2 ?_ | refine E.q4 ?_ | refine E.tr ?_ | refine E.ap (fun _ _ => ?_) | refine E.b1 (fun _ _ => ?_) | refine E.b0 (fun _ _ => ?_) | refine E.bsn (fun _ _ => ?_) | refine E.mk (fun _ _ => ?_) | refine E.bxO (fun _ => ?_) | refine E.al (fun _ => ?_) | refine E.sbO ?_ | refine E.dq ?_ | refine E.ct ?_ | refine E.cf ?_ | refine E.cs (fun hh => ?_) (fun hh => ?_) | refine E.at_block_other rfl ?_)
      · rw [if_pos hh] at hstep
        refine rd (α := Nat × V1) (j + 1, ⟨_, ?_⟩) hlt3 (hK := KSub.ownF pk (by rw [hstep]) (KSub.ownF pk (by rw [hstep]; exact hsn.symm) ks))
        assumption
      · rw [if_neg hh] at hstep
        exact rd (α := Nat × V1) (j + 1, ⟨_, g7⟩) hlt3 (hK := KSub.ownF pk (by rw [hstep]) (KSub.ownF pk (by rw [hstep]) ks))
    · repeat' (first | refine E.st ?_ | refine E.q3 ?_ | refine E.q ?_ | refine E.qs ?_ | refine E.q2 ?_ | refine E.q4 ?_ | refine E.tr ?_ | refine E.ap (fun _ _ => ?_) | refine E.b1 (fun _ _ => ?_) | refine E.b0 (fun _ _ => ?_) | refine E.bsn (fun _ _ => ?_) | refine E.mk (fun _ _ => ?_) | refine E.bxO (fun _ => ?_) | refine E.al (fun _ => ?_) | refine E.sbO ?_ | refine E.dq ?_ | refine E.ct ?_ | refine E.cf ?_ | refine E.cs (fun hh => ?_) (fun hh => ?_) | refine E.at_block_other rfl ?_)
      have hej := hSe j hge3
      refine rd (α := (Nat × Bf) × V1) ((k + 1, bfRow adj s i'), ⟨u7, g7⟩) ⟨⟨by rw [← hej]; exact hBj, by rw [← hej]; dsimp only; omega⟩, hgo2⟩ (hK := KSub.ownF pk (by rw [hej]) (KSub.ownF pk (by rw [hej]) ks))
  · repeat' (first | refine E.st ?_ | refine E.q3 ?_ | refine E.q ?_ | refine E.qs ?_ | refine E.q2 ?_ | refine E.q4 ?_ | refine E.tr ?_ | refine E.ap (fun _ _ => ?_) | refine E.b1 (fun _ _ => ?_) | refine E.b0 (fun _ _ => ?_) | refine E.bsn (fun _ _ => ?_) | refine E.mk (fun _ _ => ?_) | refine E.bxO (fun _ => ?_) | refine E.al (fun _ => ?_) | refine E.sbO ?_ | refine E.dq ?_ | refine E.ct ?_ | refine E.cf ?_ | refine E.cs (fun hh => ?_) (fun hh => ?_) | refine E.at_block_other rfl ?_)
    have hend : s = bfs adj n i := by rw [← hgo, bfGo_end _ _ _ hge2]
    refine rn (α := { p : Value × Value // p.1.oneCell' = true ∧ p.2.oneCell' = true }) ⟨(v6, v8), h6, h8⟩ (hK := KSub.ownF pk ?_ (KSub.ownF pk ?_ (KSub.nil _)))
    · rw [hend]
    · rw [hend]
theorem c_countStays {v b : Value} {row : List Nat} {left : List Bool} (w : World) (hlt : ∀ j ∈ row, j < left.length) (hn : row.length ≤ 1000) (hr : RdF w v (zL row) := by exact rdA) (hb : RdF w b left := by exact rdA) : Calls Tryz.prog 185 #[v, b] w (Ret (fun _ : Unit => .int .i64 ((stays left row : Nat) : Int)) (fun _ => []) w) := by
  have o1 := hr.one
  have o2 := hb.one
  have hzl : (zL row).length = row.length := zL_len
  refine enter (args := _) Tryz.func185 rfl Tryz.ntmps185 (by simp) ?_
  repeat' (first | refine E.st ?_ | refine E.q3 ?_ | refine E.q ?_ | refine E.qs ?_ | refine E.q2 ?_ | refine E.q4 ?_ | refine E.tr ?_ | refine E.ap (fun _ _ => ?_) | refine E.b1 (fun _ _ => ?_) | refine E.b0 (fun _ _ => ?_) | refine E.bsn (fun _ _ => ?_) | refine E.mk (fun _ _ => ?_) | refine E.bxO (fun _ => ?_) | refine E.al (fun _ => ?_) | refine E.sbO ?_ | refine E.dq ?_ | refine E.ct ?_ | refine E.cf ?_ | refine E.cs (fun hh => ?_) (fun hh => ?_) | refine E.at_block_other rfl ?_)
  refine lq (fun j : Nat => j ≤ row.length) (fun j => [(10, .pl (.int .i64 (j : Int))), (5, .pl (.int .i64 ((stays left (row.take j) : Nat) : Int)))]) (fun j => []) (fun j => row.length - j) 0 (Nat.zero_le _) (fun j hj => ?_)
  rcases Nat.lt_or_ge j row.length with hlt2 | hge
  · obtain ⟨o, hy⟩ := get_lt hlt2
    have hyz := zL_get hy
    have hol := hlt o (List.mem_of_getElem? hy)
    have hys : left[o]? = some (left.getD o false) := getD_at hol
    have hst : stays left (row.take (j + 1)) = stays left (row.take j) + if left.getD o false = true then 1 else 0 := by
      simp [stays, List.take_add_one, hy, List.countP_append, List.countP_cons]
    have hsb := stays_le (left := left) (row := row.take j)
    simp only [List.length_take] at hsb
    generalize left.getD o false = c at hys hst
    generalize stays left (row.take j) = m at hst hsb ⊢
    repeat' (first | refine E.st ?_ | refine E.q3 ?_ | refine E.q ?_ | refine E.qs ?_ | refine E.q2 ?_ | refine E.q4 ?_ | refine E.tr ?_ | refine E.ap (fun _ _ => ?_) | refine E.b1 (fun _ _ => ?_) | refine E.b0 (fun _ _ => ?_) | refine E.bsn (fun _ _ => ?_) | refine E.mk (fun _ _ => ?_) | refine E.bxO (fun _ => ?_) | refine E.al (fun _ => ?_) | refine E.sbO ?_ | refine E.dq ?_ | refine E.ct ?_ | refine E.cf ?_ | refine E.cs (fun hh => ?_) (fun hh => ?_) | refine E.at_block_other rfl ?_)
    · rw [if_pos (by assumption)] at hst
      exact rd (j + 1) hlt2 (hF := FSub.int rfl (by omega) (FSub.int rfl (by omega) fs))
    · rw [if_neg (by simp [*])] at hst
      exact rd (j + 1) hlt2 (hF := FSub.int rfl (by omega) (FSub.int rfl (by omega) fs))
  · rw [List.take_of_length_le hge]
    repeat' (first | refine E.st ?_ | refine E.q3 ?_ | refine E.q ?_ | refine E.qs ?_ | refine E.q2 ?_ | refine E.q4 ?_ | refine E.tr ?_ | refine E.ap (fun _ _ => ?_) | refine E.b1 (fun _ _ => ?_) | refine E.b0 (fun _ _ => ?_) | refine E.bsn (fun _ _ => ?_) | refine E.mk (fun _ _ => ?_) | refine E.bxO (fun _ => ?_) | refine E.al (fun _ => ?_) | refine E.sbO ?_ | refine E.dq ?_ | refine E.ct ?_ | refine E.cf ?_ | refine E.cs (fun hh => ?_) (fun hh => ?_) | refine E.at_block_other rfl ?_)
    exact ri
end E
end Go.Proofs.YtpiiapoafmnhhaaGreat
