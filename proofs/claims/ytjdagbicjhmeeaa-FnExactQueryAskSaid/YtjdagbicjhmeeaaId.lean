/- The program's threes, given the rows of places. -/
import Derived.Test.YtjdagbicjhmeeaaIc
namespace Go.Proofs.Ytjdagbicjhmeeaa
namespace E
open Go Go.RowKit
set_option linter.unusedSimpArgs false
set_option linter.unusedVariables false
set_option maxHeartbeats 1000000
set_option maxRecDepth 10000
attribute [local irreducible] HC HL HQ HX HO At Y YV Opd Opds KnX Sl Ld Src GV RV Calls Code.wp eptr adr RdF ownF OneX HG LdC
def f3 (adj : List (List Nat)) (a b : Nat) : Nat := if b < a then 0 else three1 adj a b
theorem three1_le {adj : List (List Nat)} {a b : Nat} (h : (adj.getD b []).length ≤ 40) : three1 adj a b ≤ 40 := Nat.le_trans List.countP_le_length h
theorem f3_sum_le {adj : List (List Nat)} {a : Nat} : ∀ row : List Nat, (∀ b ∈ row, (adj.getD b []).length ≤ 40) → (row.map (f3 adj a)).sum ≤ 40 * row.length
  | [], _ => by simp
  | b :: row, h => by
    have h1 := f3_sum_le (adj := adj) (a := a) row (fun x hx => h x (List.mem_cons_of_mem _ hx))
    have h2 := three1_le (a := a) (h b List.mem_cons_self)
    simp only [List.map_cons, List.sum_cons, List.length_cons, f3] at h1 ⊢
    split <;> omega
def tsum3 (adj : List (List Nat)) (i : Nat) : Nat := ((List.range i).map (fun a => threeR adj a (adj.getD a []))).sum
theorem tsum3_step {adj : List (List Nat)} {i : Nat} : tsum3 adj (i + 1) = tsum3 adj i + ((adj.getD i []).map (f3 adj i)).sum := by
  unfold tsum3
  rw [List.range_succ, List.map_append, List.sum_append]
  simp only [List.map_cons, List.map_nil, List.sum_cons, List.sum_nil, Nat.add_zero]
  rfl
theorem drop_sum {f : Nat → Nat} {row : List Nat} {j b : Nat} (h : row[j]? = some b) : ((row.drop j).map f).sum = f b + ((row.drop (j + 1)).map f).sum := by
  obtain ⟨hj, e⟩ := List.getElem?_eq_some_iff.1 h
  rw [List.drop_eq_getElem_cons hj, e]
  rfl
theorem mem_zL {r : List Nat} {o : Nat} : (o : Int) ∈ zL r ↔ o ∈ r := by
  unfold zL
  rw [List.mem_map]
  constructor
  · rintro ⟨a, h, e⟩
    have : a = o := by omega
    exact this ▸ h
  · exact fun h => ⟨o, h, rfl⟩
theorem wr {P : Program} {N : Nat} {w0 : World} {K : List Ck} {F : List (Nat × En)} {Q : Exit → Act → World → Prop} {cd : Code} {xs : List Sv} {adj : List (List Nat)} {i : Nat} {x : Sv} {r : List Nat} (hx : xs[i]? = some x) (hr : adj[i]? = some r) (k : RdIn w0 K (.slice x.a x.n x.c) (zL r) → HC P N w0 cd Q F K) (hs : InK (inn 3 xs adj) K := by exact ink) : HC P N w0 cd Q F K := k (inn_in (hs := hs) i x r hx hr)
theorem c_i_WalkThrees (hN : NearC) {v u : Value} {g : Gr} (w : World) (hr : RdF w v g.ns := by exact rdA) (hq : RdF w u g.es := by exact rdA) :
    Calls Try.prog 29 #[.agg #[v, u]] w (Ret (fun _ : Unit => .int .i64 (if g.ok then (threesL (adjL g) : Int) else 0)) (fun _ => []) w) := by
  have o1 := hr.one
  have o2 := hq.one
  by_cases hg : g.ok
  · have hgt := gok_t hg
    have hnl := hg.1.len
    have hA := AOk.of hg
    have hal := hA.1
    rw [if_pos hg]
    refine enter (args := _) Try.func29 rfl Try.ntmps29 (by simp) ?_
    repeat' (first | refine E.st ?_ | refine E.cl (h := fun _ w _ => c_i_GraphOk_t w hgt) (k := ?_) | refine E.cm (h := fun w hw => hN w hg (hr.now hw) (hq.now hw)) (k := fun z => E.wy z.1.2 (fun _ => E.wy z.2.2 (fun hM => E.wy (show z.2.1.length = g.ns.length from z.2.2.1.trans hA.1) (fun hzl => ?_)))) | refine E.q3 ?_ | refine E.q ?_ | refine E.qs ?_ | refine E.q2 ?_ | refine E.q4 ?_ | refine E.tr ?_ | refine E.ap (fun _ _ => ?_) | refine E.b1 (fun _ _ => ?_) | refine E.b0 (fun _ _ => ?_) | refine E.bsn (fun _ _ => ?_) | refine E.mk (fun _ _ => ?_) | refine E.bxO (fun _ => ?_) | refine E.al (fun _ => ?_) | refine E.sbO ?_ | refine E.dq ?_ | refine E.ct ?_ | refine E.cf ?_ | refine E.cs (fun hh => ?_) (fun hh => ?_) | refine E.at_block_other rfl ?_)
    have hrows : ∀ b, b < g.ns.length → ((adjL g).getD b []).length ≤ 40 := fun b hb => by
      have hrw : (adjL g)[b]? = some ((adjL g).getD b []) := getD_at (by omega)
      have := row_len (hA.2 b _ hrw).1 (hA.2 b _ hrw).2 hb
      omega
    have hend : tsum3 (adjL g) g.ns.length = threesL (adjL g) := by unfold tsum3 threesL; rw [hal]
    refine lq (fun i : Nat => i ≤ z.2.1.length ∧ tsum3 (adjL g) i ≤ 1600 * i) (fun i => [(17, .pl (.int .i64 (i : Int))), (4, .pl (.int .i64 ((tsum3 (adjL g) i : Nat) : Int)))]) (fun _ => []) (fun i => z.2.1.length - i) 0 ⟨Nat.zero_le _, by simp [tsum3]⟩ (fun i hi => ?_)
    obtain ⟨hi, hb⟩ := hi
    rcases Nat.lt_or_ge i z.2.1.length with hlt | hge
    · obtain ⟨x, hx⟩ := get_lt hlt
      have hrw : (adjL g)[i]? = some ((adjL g).getD i []) := getD_at (by omega)
      have hAr := hA.2 i _ hrw
      have hrl := row_len hAr.1 hAr.2 (by omega : i < g.ns.length)
      have hts := tsum3_step (adj := adjL g) (i := i)
      have hfs := f3_sum_le (adj := adjL g) (a := i) ((adjL g).getD i []) (fun b hb => hrows b (hAr.1 b hb).1)
      have hzr : (zL ((adjL g).getD i [])).length = ((adjL g).getD i []).length := zL_len
      dsimp only [List.append_eq, List.nil_append, List.cons_append]
      refine E.wr hx hrw (fun hin => ?_)
      repeat' (first | refine E.st ?_ | refine E.q3 ?_ | refine E.q ?_ | refine E.qs ?_ | refine E.q2 ?_ | refine E.q4 ?_ | refine E.tr ?_ | refine E.ap (fun _ _ => ?_) | refine E.b1 (fun _ _ => ?_) | refine E.b0 (fun _ _ => ?_) | refine E.bsn (fun _ _ => ?_) | refine E.mk (fun _ _ => ?_) | refine E.bxO (fun _ => ?_) | refine E.al (fun _ => ?_) | refine E.sbO ?_ | refine E.dq ?_ | refine E.ct ?_ | refine E.cf ?_ | refine E.cs (fun hh => ?_) (fun hh => ?_) | refine E.at_block_other rfl ?_)
      refine lq (fun y : Nat × Nat => y.1 ≤ ((adjL g).getD i []).length ∧ y.2 + ((((adjL g).getD i []).drop y.1).map (f3 (adjL g) i)).sum = tsum3 (adjL g) i + (((adjL g).getD i []).map (f3 (adjL g) i)).sum) (fun y => [(25, .pl (.int .i64 (y.1 : Int))), (4, .pl (.int .i64 (y.2 : Int)))]) (fun _ => []) (fun y => ((adjL g).getD i []).length - y.1) (0, tsum3 (adjL g) i) ⟨Nat.zero_le _, by simp⟩ (fun y hy => ?_)
      obtain ⟨j, c⟩ := y
      obtain ⟨hj, hc⟩ := hy
      dsimp only [List.append_eq, List.nil_append, List.cons_append] at hj hc ⊢
      rcases Nat.lt_or_ge j ((adjL g).getD i []).length with hlt2 | hge2
      · obtain ⟨b, hbj⟩ := get_lt hlt2
        have hbz := zL_get hbj
        have hbn := (hAr.1 b (List.mem_of_getElem? hbj)).1
        rw [drop_sum hbj] at hc
        obtain ⟨xb, hxb⟩ := get_lt (xs := z.2.1) (k := b) (by omega)
        have hrb : (adjL g)[b]? = some ((adjL g).getD b []) := getD_at (by omega)
        have hzb : (zL ((adjL g).getD b [])).length = ((adjL g).getD b []).length := zL_len
        have hlb := hrows b hbn
        refine E.wr hxb hrb (fun hinb => ?_)
        by_cases hbi : b < i
        · have hf : f3 (adjL g) i b = 0 := if_pos hbi
          rw [hf] at hc
          repeat' (first | refine E.st ?_ | refine E.q3 ?_ | refine E.q ?_ | refine E.qs ?_ | refine E.q2 ?_ | refine E.q4 ?_ | refine E.tr ?_ | refine E.ap (fun _ _ => ?_) | refine E.b1 (fun _ _ => ?_) | refine E.b0 (fun _ _ => ?_) | refine E.bsn (fun _ _ => ?_) | refine E.mk (fun _ _ => ?_) | refine E.bxO (fun _ => ?_) | refine E.al (fun _ => ?_) | refine E.sbO ?_ | refine E.dq ?_ | refine E.ct ?_ | refine E.cf ?_ | refine E.cs (fun hh => ?_) (fun hh => ?_) | refine E.at_block_other rfl ?_)
          exact rd (α := Nat × Nat) (j + 1, c) ⟨hlt2, by dsimp only; omega⟩
        · have hf : f3 (adjL g) i b = ((adjL g).getD b []).countP (fun c => decide (b < c) && decide (c ∈ (adjL g).getD i [])) := if_neg hbi
          rw [hf] at hc
          repeat' (first | refine E.st ?_ | refine E.q3 ?_ | refine E.q ?_ | refine E.qs ?_ | refine E.q2 ?_ | refine E.q4 ?_ | refine E.tr ?_ | refine E.ap (fun _ _ => ?_) | refine E.b1 (fun _ _ => ?_) | refine E.b0 (fun _ _ => ?_) | refine E.bsn (fun _ _ => ?_) | refine E.mk (fun _ _ => ?_) | refine E.bxO (fun _ => ?_) | refine E.al (fun _ => ?_) | refine E.sbO ?_ | refine E.dq ?_ | refine E.ct ?_ | refine E.cf ?_ | refine E.cs (fun hh => ?_) (fun hh => ?_) | refine E.at_block_other rfl ?_)
          refine lq (fun y : Nat × Nat => y.1 ≤ ((adjL g).getD b []).length ∧ y.2 + ((((adjL g).getD b []).drop y.1).countP (fun c => decide (b < c) && decide (c ∈ (adjL g).getD i [])) + ((((adjL g).getD i []).drop (j + 1)).map (f3 (adjL g) i)).sum) = tsum3 (adjL g) i + (((adjL g).getD i []).map (f3 (adjL g) i)).sum) (fun y => [(37, .pl (.int .i64 (y.1 : Int))), (4, .pl (.int .i64 (y.2 : Int)))]) (fun _ => []) (fun y => ((adjL g).getD b []).length - y.1) (0, c) ⟨Nat.zero_le _, by simpa using hc⟩ (fun y hy => ?_)
          obtain ⟨m, c3⟩ := y
          obtain ⟨hm, hc3⟩ := hy
          dsimp only [List.append_eq, List.nil_append, List.cons_append] at hm hc3 ⊢
          rcases Nat.lt_or_ge m ((adjL g).getD b []).length with hlt3 | hge3
          · obtain ⟨o, hom⟩ := get_lt hlt3
            have hoz := zL_get hom
            rw [drop_countP hom] at hc3
            have hmz := mem_zL (r := (adjL g).getD i []) (o := o)
            repeat' (first | refine E.st ?_ | refine E.cl (h := fun _ w hw => c_hasI w (hin.att hw)) (k := ?_) | refine E.q3 ?_ | refine E.q ?_ | refine E.qs ?_ | refine E.q2 ?_ | refine E.q4 ?_ | refine E.tr ?_ | refine E.ap (fun _ _ => ?_) | refine E.b1 (fun _ _ => ?_) | refine E.b0 (fun _ _ => ?_) | refine E.bsn (fun _ _ => ?_) | refine E.mk (fun _ _ => ?_) | refine E.bxO (fun _ => ?_) | refine E.al (fun _ => ?_) | refine E.sbO ?_ | refine E.dq ?_ | refine E.ct ?_ | refine E.cf ?_ | refine E.cs (fun hh => ?_) (fun hh => ?_) | refine E.at_block_other rfl ?_)
            · have e1 : (decide (b < o) && decide (o ∈ (adjL g).getD i [])) = true := by
                rw [Bool.and_eq_true, decide_eq_true_eq, decide_eq_true_eq]
                exact ⟨by omega, hmz.1 hh.2⟩
              rw [if_pos e1] at hc3
              exact rd (α := Nat × Nat) (m + 1, c3 + 1) ⟨hlt3, by dsimp only; omega⟩
            · have e1 : ¬ (decide (b < o) && decide (o ∈ (adjL g).getD i [])) = true := by
                rw [Bool.and_eq_true, decide_eq_true_eq, decide_eq_true_eq]
                rintro ⟨h1, h2⟩
                rcases hh with h | h
                · omega
                · exact h (hmz.2 h2)
              rw [if_neg e1] at hc3
              exact rd (α := Nat × Nat) (m + 1, c3) ⟨hlt3, by dsimp only; omega⟩
          · repeat' (first | refine E.st ?_ | refine E.q3 ?_ | refine E.q ?_ | refine E.qs ?_ | refine E.q2 ?_ | refine E.q4 ?_ | refine E.tr ?_ | refine E.ap (fun _ _ => ?_) | refine E.b1 (fun _ _ => ?_) | refine E.b0 (fun _ _ => ?_) | refine E.bsn (fun _ _ => ?_) | refine E.mk (fun _ _ => ?_) | refine E.bxO (fun _ => ?_) | refine E.al (fun _ => ?_) | refine E.sbO ?_ | refine E.dq ?_ | refine E.ct ?_ | refine E.cf ?_ | refine E.cs (fun hh => ?_) (fun hh => ?_) | refine E.at_block_other rfl ?_)
            rw [List.drop_of_length_le hge3] at hc3
            simp only [List.countP_nil, Nat.zero_add] at hc3
            exact rd (α := Nat × Nat) (j + 1, c3) ⟨hlt2, hc3⟩
      · repeat' (first | refine E.st ?_ | refine E.q3 ?_ | refine E.q ?_ | refine E.qs ?_ | refine E.q2 ?_ | refine E.q4 ?_ | refine E.tr ?_ | refine E.ap (fun _ _ => ?_) | refine E.b1 (fun _ _ => ?_) | refine E.b0 (fun _ _ => ?_) | refine E.bsn (fun _ _ => ?_) | refine E.mk (fun _ _ => ?_) | refine E.bxO (fun _ => ?_) | refine E.al (fun _ => ?_) | refine E.sbO ?_ | refine E.dq ?_ | refine E.ct ?_ | refine E.cf ?_ | refine E.cs (fun hh => ?_) (fun hh => ?_) | refine E.at_block_other rfl ?_)
        rw [List.drop_of_length_le hge2] at hc
        simp only [List.map_nil, List.sum_nil, Nat.add_zero] at hc
        refine rd (i + 1) ⟨hlt, by omega⟩ (hF := FSub.int rfl (by omega) (FSub.int rfl (by omega) fs))
    · have hie : i = g.ns.length := by omega
      subst hie
      rw [hend]
      repeat' (first | refine E.st ?_ | refine E.q3 ?_ | refine E.q ?_ | refine E.qs ?_ | refine E.q2 ?_ | refine E.q4 ?_ | refine E.tr ?_ | refine E.ap (fun _ _ => ?_) | refine E.b1 (fun _ _ => ?_) | refine E.b0 (fun _ _ => ?_) | refine E.bsn (fun _ _ => ?_) | refine E.mk (fun _ _ => ?_) | refine E.bxO (fun _ => ?_) | refine E.al (fun _ => ?_) | refine E.sbO ?_ | refine E.dq ?_ | refine E.ct ?_ | refine E.cf ?_ | refine E.cs (fun hh => ?_) (fun hh => ?_) | refine E.at_block_other rfl ?_)
      exact ri
  · have hgf := gok_f hg
    rw [if_neg hg]
    refine enter (args := _) Try.func29 rfl Try.ntmps29 (by simp) ?_
    repeat' (first | refine E.st ?_ | refine E.cl (h := fun _ w _ => c_i_GraphOk_f w hgf) (k := ?_)  | refine E.q3 ?_ | refine E.q ?_ | refine E.qs ?_ | refine E.q2 ?_ | refine E.q4 ?_ | refine E.tr ?_ | refine E.ap (fun _ _ => ?_) | refine E.b1 (fun _ _ => ?_) | refine E.b0 (fun _ _ => ?_) | refine E.bsn (fun _ _ => ?_) | refine E.mk (fun _ _ => ?_) | refine E.bxO (fun _ => ?_) | refine E.al (fun _ => ?_) | refine E.sbO ?_ | refine E.dq ?_ | refine E.ct ?_ | refine E.cf ?_ | refine E.cs (fun hh => ?_) (fun hh => ?_) | refine E.at_block_other rfl ?_)
    exact ri
end E
end Go.Proofs.Ytjdagbicjhmeeaa
