/- Contracts on graphs: places, counts, and whether a graph is right; the reference's side, and the program's nodes. -/
import Derived.Test.YtjdagbicjhmeeaaPa
namespace Go.Proofs.Ytjdagbicjhmeeaa
namespace E
open Go Go.RowKit
set_option linter.unusedSimpArgs false
set_option linter.unusedVariables false
set_option maxHeartbeats 1000000
set_option maxRecDepth 10000
attribute [local irreducible] HC HL HQ HX HO At Y YV Opd Opds KnX Sl Ld Src GV RV Calls Code.wp eptr adr RdF ownF OneX HG LdC
theorem nd_ne {x : Nd} {l n : Int} : ¬ [x.l, x.n] = [l, n] ↔ x ≠ ⟨l, n⟩ := by
  cases x; simp
theorem eg_ne {x : Eg} {l al an bl bn : Int} : ¬ [x.l, x.a.l, x.a.n, x.b.l, x.b.n] = [l, al, an, bl, bn] ↔ x ≠ ⟨l, ⟨al, an⟩, ⟨bl, bn⟩⟩ := by
  cases x; rename_i l a b; cases a; cases b; simp
theorem c_s_l2At {v u : Value} {ns : List Nd} {l n : Int} (w : World) (hr : RdF w v ns := by exact rdA) : Calls Try.prog 66 #[.agg #[v, u], .agg #[.int .i64 l, .int .i64 n]] w (Ret (fun _ : Unit => .int .i64 (pos ns ⟨l, n⟩)) (fun _ => []) w) := by
  have m1 := hr.le
  have o1 := hr.one
  simp only [maxLen] at m1
  refine enter (args := _) Try.func66 rfl Try.ntmps66 (by simp) ?_
  repeat' (first | refine E.st ?_ | refine E.q ?_ | refine E.qs ?_ | refine E.q2 ?_ | refine E.tr ?_ | refine E.ap (fun _ _ => ?_) | refine E.b1 (fun _ _ => ?_) | refine E.b0 (fun _ _ => ?_) | refine E.bsn (fun _ _ => ?_) | refine E.mk (fun _ _ => ?_) | refine E.bx (fun _ => ?_) | refine E.al (fun _ => ?_) | refine E.sb ?_ | refine E.dq ?_ | refine E.ct ?_ | refine E.cf ?_ | refine E.cs (fun hh => ?_) (fun hh => ?_) | refine E.at_block_other rfl ?_)
  refine lq (fun k : Nat => k ≤ ns.length ∧ ∀ y ∈ ns.take k, y ≠ ⟨l, n⟩) (fun k => [(5, .pl (.int .i64 (k : Int)))]) (fun _ => []) (fun k => ns.length - k) 0 ⟨Nat.zero_le _, by simp⟩ (fun k hk0 => ?_)
  obtain ⟨hk1, hk2⟩ := hk0
  rcases Nat.lt_or_ge k ns.length with hlt | hge
  · obtain ⟨x, hx⟩ := get_lt hlt
    repeat' (first | refine E.st ?_ | refine E.q ?_ | refine E.qs ?_ | refine E.q2 ?_ | refine E.tr ?_ | refine E.ap (fun _ _ => ?_) | refine E.b1 (fun _ _ => ?_) | refine E.b0 (fun _ _ => ?_) | refine E.bsn (fun _ _ => ?_) | refine E.mk (fun _ _ => ?_) | refine E.bx (fun _ => ?_) | refine E.al (fun _ => ?_) | refine E.sb ?_ | refine E.dq ?_ | refine E.ct ?_ | refine E.cf ?_ | refine E.cs (fun hh => ?_) (fun hh => ?_) | refine E.at_block_other rfl ?_)
    · refine ri ?_
      have : x = ⟨l, n⟩ := Decidable.not_not.1 (fun h => nd_ne.2 h hh)
      rw [pos_some (by rw [hx, this]) hk2]
    · exact rd (k + 1) ⟨by omega, all_step hk2 hx (nd_ne.1 hh)⟩
  · repeat' (first | refine E.st ?_ | refine E.q ?_ | refine E.qs ?_ | refine E.q2 ?_ | refine E.tr ?_ | refine E.ap (fun _ _ => ?_) | refine E.b1 (fun _ _ => ?_) | refine E.b0 (fun _ _ => ?_) | refine E.bsn (fun _ _ => ?_) | refine E.mk (fun _ _ => ?_) | refine E.bx (fun _ => ?_) | refine E.al (fun _ => ?_) | refine E.sb ?_ | refine E.dq ?_ | refine E.ct ?_ | refine E.cf ?_ | refine E.cs (fun hh => ?_) (fun hh => ?_) | refine E.at_block_other rfl ?_)
    refine ri ?_
    rw [List.take_of_length_le hge] at hk2
    rw [pos_none (fun h => hk2 _ h rfl)]
def nlab (ns : List Nd) (a : Int) : Nat := ns.countP (fun x => decide (x.l = a))
def elbC (es : List Eg) (a : Int) : Nat := es.countP (fun x => decide (x.l = a))
theorem c_s_l2Nodes {v u : Value} {ns : List Nd} {a : Int} (w : World) (hr : RdF w v ns := by exact rdA) : Calls Try.prog 67 #[.agg #[v, u], .int .i64 a] w (Ret (fun _ : Unit => .int .i64 ((nlab ns a : Nat) : Int)) (fun _ => []) w) := by
  have m1 := hr.le
  have o1 := hr.one
  simp only [maxLen] at m1
  refine enter (args := _) Try.func67 rfl Try.ntmps67 (by simp) ?_
  repeat' (first | refine E.st ?_ | refine E.q ?_ | refine E.qs ?_ | refine E.q2 ?_ | refine E.tr ?_ | refine E.ap (fun _ _ => ?_) | refine E.b1 (fun _ _ => ?_) | refine E.b0 (fun _ _ => ?_) | refine E.bsn (fun _ _ => ?_) | refine E.mk (fun _ _ => ?_) | refine E.bx (fun _ => ?_) | refine E.al (fun _ => ?_) | refine E.sb ?_ | refine E.dq ?_ | refine E.ct ?_ | refine E.cf ?_ | refine E.cs (fun hh => ?_) (fun hh => ?_) | refine E.at_block_other rfl ?_)
  refine lq (fun k : Nat => k ≤ ns.length) (fun k => [(5, .pl (.int .i64 ((nlab (ns.take k) a : Nat) : Int))), (6, .pl (.int .i64 (k : Int)))]) (fun _ => []) (fun k => ns.length - k) 0 (Nat.zero_le _) (fun k hk => ?_)
  rcases Nat.lt_or_ge k ns.length with hlt | hge
  · obtain ⟨x, hx⟩ := get_lt hlt
    have hs := count_step (fun x => decide (x.l = a)) hx
    have hl := count_lt (xs := ns) k (fun x : Nd => decide (x.l = a))
    change nlab _ _ = nlab _ _ + _ at hs
    change nlab _ _ ≤ _ at hl
    repeat' (first | refine E.st ?_ | refine E.q ?_ | refine E.qs ?_ | refine E.q2 ?_ | refine E.tr ?_ | refine E.ap (fun _ _ => ?_) | refine E.b1 (fun _ _ => ?_) | refine E.b0 (fun _ _ => ?_) | refine E.bsn (fun _ _ => ?_) | refine E.mk (fun _ _ => ?_) | refine E.bx (fun _ => ?_) | refine E.al (fun _ => ?_) | refine E.sb ?_ | refine E.dq ?_ | refine E.ct ?_ | refine E.cf ?_ | refine E.cs (fun hh => ?_) (fun hh => ?_) | refine E.at_block_other rfl ?_)
    all_goals (simp only [hh, decide_true, decide_false, if_true, if_false, Bool.false_eq_true] at hs; exact rd (k + 1) (by omega))
  · repeat' (first | refine E.st ?_ | refine E.q ?_ | refine E.qs ?_ | refine E.q2 ?_ | refine E.tr ?_ | refine E.ap (fun _ _ => ?_) | refine E.b1 (fun _ _ => ?_) | refine E.b0 (fun _ _ => ?_) | refine E.bsn (fun _ _ => ?_) | refine E.mk (fun _ _ => ?_) | refine E.bx (fun _ => ?_) | refine E.al (fun _ => ?_) | refine E.sb ?_ | refine E.dq ?_ | refine E.ct ?_ | refine E.cf ?_ | refine E.cs (fun hh => ?_) (fun hh => ?_) | refine E.at_block_other rfl ?_)
    rw [List.take_of_length_le hge]
    exact ri
theorem c_s_l2Edges {v u : Value} {es : List Eg} {a : Int} (w : World) (hr : RdF w u es := by exact rdA) (o2 : v.oneCell' = true := by assumption) : Calls Try.prog 68 #[.agg #[v, u], .int .i64 a] w (Ret (fun _ : Unit => .int .i64 ((elbC es a : Nat) : Int)) (fun _ => []) w) := by
  have m1 := hr.le
  have o1 := hr.one
  simp only [maxLen] at m1
  refine enter (args := _) Try.func68 rfl Try.ntmps68 (by simp) ?_
  repeat' (first | refine E.st ?_ | refine E.q ?_ | refine E.qs ?_ | refine E.q2 ?_ | refine E.tr ?_ | refine E.ap (fun _ _ => ?_) | refine E.b1 (fun _ _ => ?_) | refine E.b0 (fun _ _ => ?_) | refine E.bsn (fun _ _ => ?_) | refine E.mk (fun _ _ => ?_) | refine E.bx (fun _ => ?_) | refine E.al (fun _ => ?_) | refine E.sb ?_ | refine E.dq ?_ | refine E.ct ?_ | refine E.cf ?_ | refine E.cs (fun hh => ?_) (fun hh => ?_) | refine E.at_block_other rfl ?_)
  refine lq (fun k : Nat => k ≤ es.length) (fun k => [(5, .pl (.int .i64 ((elbC (es.take k) a : Nat) : Int))), (6, .pl (.int .i64 (k : Int)))]) (fun _ => []) (fun k => es.length - k) 0 (Nat.zero_le _) (fun k hk => ?_)
  rcases Nat.lt_or_ge k es.length with hlt | hge
  · obtain ⟨x, hx⟩ := get_lt hlt
    have hs := count_step (fun x => decide (x.l = a)) hx
    have hl := count_lt (xs := es) k (fun x : Eg => decide (x.l = a))
    change elbC _ _ = elbC _ _ + _ at hs
    change elbC _ _ ≤ _ at hl
    repeat' (first | refine E.st ?_ | refine E.q ?_ | refine E.qs ?_ | refine E.q2 ?_ | refine E.tr ?_ | refine E.ap (fun _ _ => ?_) | refine E.b1 (fun _ _ => ?_) | refine E.b0 (fun _ _ => ?_) | refine E.bsn (fun _ _ => ?_) | refine E.mk (fun _ _ => ?_) | refine E.bx (fun _ => ?_) | refine E.al (fun _ => ?_) | refine E.sb ?_ | refine E.dq ?_ | refine E.ct ?_ | refine E.cf ?_ | refine E.cs (fun hh => ?_) (fun hh => ?_) | refine E.at_block_other rfl ?_)
    all_goals (simp only [hh, decide_true, decide_false, if_true, if_false, Bool.false_eq_true] at hs; exact rd (k + 1) (by omega))
  · repeat' (first | refine E.st ?_ | refine E.q ?_ | refine E.qs ?_ | refine E.q2 ?_ | refine E.tr ?_ | refine E.ap (fun _ _ => ?_) | refine E.b1 (fun _ _ => ?_) | refine E.b0 (fun _ _ => ?_) | refine E.bsn (fun _ _ => ?_) | refine E.mk (fun _ _ => ?_) | refine E.bx (fun _ => ?_) | refine E.al (fun _ => ?_) | refine E.sb ?_ | refine E.dq ?_ | refine E.ct ?_ | refine E.cf ?_ | refine E.cs (fun hh => ?_) (fun hh => ?_) | refine E.at_block_other rfl ?_)
    rw [List.take_of_length_le hge]
    exact ri
theorem c_s_l2Less {l al an bl bn l' al' an' bl' bn' : Int} (w : World) : Calls Try.prog 65 #[.agg #[.int .i64 l, .int .i64 al, .int .i64 an, .int .i64 bl, .int .i64 bn], .agg #[.int .i64 l', .int .i64 al', .int .i64 an', .int .i64 bl', .int .i64 bn']] w (Ret (fun _ : Unit => .bool (lessE ⟨l, ⟨al, an⟩, ⟨bl, bn⟩⟩ ⟨l', ⟨al', an'⟩, ⟨bl', bn'⟩⟩)) (fun _ => []) w) := by
  refine enter (args := _) Try.func65 rfl Try.ntmps65 (by simp) ?_
  repeat' (first | refine E.st ?_ | refine E.cl (h := fun _ w _ => c_s_l2Code w) (k := ?_)  | refine E.q ?_ | refine E.qs ?_ | refine E.q2 ?_ | refine E.tr ?_ | refine E.ap (fun _ _ => ?_) | refine E.b1 (fun _ _ => ?_) | refine E.b0 (fun _ _ => ?_) | refine E.bsn (fun _ _ => ?_) | refine E.mk (fun _ _ => ?_) | refine E.bx (fun _ => ?_) | refine E.al (fun _ => ?_) | refine E.sb ?_ | refine E.dq ?_ | refine E.ct ?_ | refine E.cf ?_ | refine E.cs (fun hh => ?_) (fun hh => ?_) | refine E.at_block_other rfl ?_)
  all_goals (refine rb ?_; simp only [lessE]; grind)
theorem prev {α : Type} {xs : List α} {k : Nat} (h : k < xs.length) : ∃ y, xs[((k : Int) - 1).toNat]? = some y := get_lt (by omega)
theorem prev_eq {α : Type} {xs : List α} {k : Nat} {y : α} (hk : 0 < k) (hy : xs[((k : Int) - 1).toNat]? = some y) : xs[k - 1]? = some y := by
  have : ((k : Int) - 1).toNat = k - 1 := by omega
  rwa [this] at hy
theorem nodes_no {ns : List Nd} {k : Nat} {x y : Nd} (hx : ns[k]? = some x) (hy : ns[((k : Int) - 1).toNat]? = some y) (h : (nok x = false ∨ (0 < (k : Int) ∧ cd x ≤ cd y)) ∨ 40 ≤ (k : Int)) : ¬ NOk ns := fun hn => by
  rcases h with (h | ⟨h1, h2⟩) | h
  · rw [hn.1 x (mem_of hx)] at h; cases h
  · exact pw_no hx (by omega) (prev_eq (by omega) hy) (by omega) hn.2.1
  · have := hn.len
    have := (List.getElem?_eq_some_iff.1 hx).1
    omega
theorem trans_cd : ∀ x y z : Nd, cd x < cd y → cd y < cd z → cd x < cd z := fun _ _ _ h h' => Int.lt_trans h h'
theorem trans_ek : ∀ x y z : Eg, ekey x < ekey y → ekey y < ekey z → ekey x < ekey z := fun _ _ _ h h' => Int.lt_trans h h'
theorem nodes_st {ns : List Nd} {k : Nat} {x y : Nd} (hx : ns[k]? = some x) (hy : ns[((k : Int) - 1).toNat]? = some y) (h : (ns.take k).Pairwise (fun x y => cd x < cd y)) (h1 : ¬ 0 < (k : Int) ∨ ¬ cd x ≤ cd y) : (ns.take (k + 1)).Pairwise (fun x y => cd x < cd y) := by
  refine pw_step trans_cd h hx ?_
  rcases Nat.eq_zero_or_pos k with h0 | h0
  · exact Or.inl h0
  · exact Or.inr ⟨y, prev_eq h0 hy, by omega⟩
theorem edges_st {es : List Eg} {k : Nat} {x y : Eg} (hx : es[k]? = some x) (hy : es[((k : Int) - 1).toNat]? = some y) (h : (es.take k).Pairwise (fun x y => ekey x < ekey y)) (h1 : ¬ 0 < (k : Int) ∨ ekey y < ekey x) : (es.take (k + 1)).Pairwise (fun x y => ekey x < ekey y) := by
  refine pw_step trans_ek h hx ?_
  rcases Nat.eq_zero_or_pos k with h0 | h0
  · exact Or.inl h0
  · exact Or.inr ⟨y, prev_eq h0 hy, by omega⟩
theorem mem_prev {α : Type} {xs : List α} {k : Nat} {y : α} (hk : 0 < k) (hy : xs[((k : Int) - 1).toNat]? = some y) : y ∈ xs.take k := by
  have := prev_eq hk hy
  rw [List.mem_take_iff_getElem]
  obtain ⟨h, e⟩ := List.getElem?_eq_some_iff.1 this
  exact ⟨k - 1, by omega, e⟩
theorem edges_no {ns : List Nd} {es : List Eg} {k : Nat} {x y : Eg} (hall : ∀ e ∈ es.take k, eok e = true ∧ e.a ∈ ns ∧ e.b ∈ ns) (hx : es[k]? = some x) (hy : es[((k : Int) - 1).toNat]? = some y) (h : (((eok x = false ∨ (0 < (k : Int) ∧ lessE y x = false)) ∨ pos ns x.a < 0) ∨ pos ns x.b < 0) ∨ 56 ≤ (k : Int)) : ¬ EOk ns es := fun hn => by
  have hm := hn.1 x (mem_of hx)
  rcases h with (((h | ⟨h1, h2⟩) | h) | h) | h
  · rw [hm.1] at h; cases h
  · refine pw_no hx (by omega) (prev_eq (by omega) hy) (fun hlt => ?_) hn.2.1
    rw [(lessE_key (hall y (mem_prev (by omega) hy)).1 hm.1).2 hlt] at h2
    cases h2
  · exact pos_neg.1 h hm.2.1
  · exact pos_neg.1 h hm.2.2
  · have := hn.len
    have := (List.getElem?_eq_some_iff.1 hx).1
    omega
theorem mem_pos {ns : List Nd} {x : Nd} (h : ¬ pos ns x < 0) : x ∈ ns := Decidable.not_not.1 (fun hn => h (pos_neg.2 hn))
theorem c_s_GraphOk {v u : Value} {ns : List Nd} {es : List Eg} (w : World) (hr : RdF w v ns := by exact rdA) (hq : RdF w u es := by exact rdA) : Calls Try.prog 28 #[.agg #[v, u]] w (Ret (fun _ : Unit => .bool (gok ns es)) (fun _ => []) w) := by
  have m1 := hr.le
  have o1 := hr.one
  have m2 := hq.le
  have o2 := hq.one
  simp only [maxLen] at m1 m2
  refine enter (args := _) Try.func28 rfl Try.ntmps28 (by simp) ?_
  repeat' (first | refine E.st ?_ | refine E.q ?_ | refine E.qs ?_ | refine E.q2 ?_ | refine E.tr ?_ | refine E.ap (fun _ _ => ?_) | refine E.b1 (fun _ _ => ?_) | refine E.b0 (fun _ _ => ?_) | refine E.bsn (fun _ _ => ?_) | refine E.mk (fun _ _ => ?_) | refine E.bx (fun _ => ?_) | refine E.al (fun _ => ?_) | refine E.sb ?_ | refine E.dq ?_ | refine E.ct ?_ | refine E.cf ?_ | refine E.cs (fun hh => ?_) (fun hh => ?_) | refine E.at_block_other rfl ?_)
  refine lq (fun k : Nat => k ≤ ns.length ∧ k ≤ 40 ∧ (∀ x ∈ ns.take k, nok x = true) ∧ (ns.take k).Pairwise (fun x y => cd x < cd y)) (fun k => [(3, .pl (.int .i64 (k : Int)))]) (fun _ => []) (fun k => ns.length - k) 0 ⟨Nat.zero_le _, by omega, by simp, by simp⟩ (fun k hk0 => ?_)
  obtain ⟨hk1, hk4, hk2, hk3⟩ := hk0
  rcases Nat.lt_or_ge k ns.length with hlt | hge
  · obtain ⟨x, hx⟩ := get_lt hlt
    obtain ⟨y, hy⟩ := prev hlt
    repeat' (first | refine E.st ?_ | refine E.cl (h := fun _ w _ => c_s_NodeOk w) (k := ?_) | refine E.cl (h := fun _ w _ => c_s_l2Code w) (k := ?_)  | refine E.q ?_ | refine E.qs ?_ | refine E.q2 ?_ | refine E.tr ?_ | refine E.ap (fun _ _ => ?_) | refine E.b1 (fun _ _ => ?_) | refine E.b0 (fun _ _ => ?_) | refine E.bsn (fun _ _ => ?_) | refine E.mk (fun _ _ => ?_) | refine E.bx (fun _ => ?_) | refine E.al (fun _ => ?_) | refine E.sb ?_ | refine E.dq ?_ | refine E.ct ?_ | refine E.cf ?_ | refine E.cs (fun hh => ?_) (fun hh => ?_) | refine E.at_block_other rfl ?_)
    · exact rb (gok_no_n (nodes_no hx hy hh)).symm
    · obtain ⟨⟨h1, h2⟩, h3⟩ := hh
      exact rd (k + 1) ⟨by omega, by omega, all_step hk2 hx h1, nodes_st hx hy hk3 h2⟩
  rw [List.take_of_length_le hge] at hk2 hk3
  repeat' (first | refine E.st ?_ | refine E.q ?_ | refine E.qs ?_ | refine E.q2 ?_ | refine E.tr ?_ | refine E.ap (fun _ _ => ?_) | refine E.b1 (fun _ _ => ?_) | refine E.b0 (fun _ _ => ?_) | refine E.bsn (fun _ _ => ?_) | refine E.mk (fun _ _ => ?_) | refine E.bx (fun _ => ?_) | refine E.al (fun _ => ?_) | refine E.sb ?_ | refine E.dq ?_ | refine E.ct ?_ | refine E.cf ?_ | refine E.cs (fun hh => ?_) (fun hh => ?_) | refine E.at_block_other rfl ?_)
  refine lq (fun k : Nat => k ≤ es.length ∧ k ≤ 56 ∧ (∀ e ∈ es.take k, eok e = true ∧ e.a ∈ ns ∧ e.b ∈ ns) ∧ (es.take k).Pairwise (fun x y => ekey x < ekey y)) (fun k => [(4, .pl (.int .i64 (k : Int)))]) (fun _ => []) (fun k => es.length - k) 0 ⟨Nat.zero_le _, by omega, by simp, by simp⟩ (fun j hj0 => ?_)
  obtain ⟨hj1, hj4, hj2, hj3⟩ := hj0
  rcases Nat.lt_or_ge j es.length with hlt | hge'
  · obtain ⟨x, hx⟩ := get_lt hlt
    obtain ⟨y, hy⟩ := prev hlt
    repeat' (first | refine E.st ?_ | refine E.cl (h := fun _ w _ => c_s_EdgeOk w) (k := ?_) | refine E.cl (h := fun _ w _ => c_s_l2Less w) (k := ?_) | refine cl (h := fun _ w _ => c_s_l2At w) (k := ?_) | refine E.q ?_ | refine E.qs ?_ | refine E.q2 ?_ | refine E.tr ?_ | refine E.ap (fun _ _ => ?_) | refine E.b1 (fun _ _ => ?_) | refine E.b0 (fun _ _ => ?_) | refine E.bsn (fun _ _ => ?_) | refine E.mk (fun _ _ => ?_) | refine E.bx (fun _ => ?_) | refine E.al (fun _ => ?_) | refine E.sb ?_ | refine E.dq ?_ | refine E.ct ?_ | refine E.cf ?_ | refine E.cs (fun hh => ?_) (fun hh => ?_) | refine E.at_block_other rfl ?_)
    · exact rb (gok_no_e (edges_no hj2 hx hy hh)).symm
    · obtain ⟨⟨⟨⟨h1, h2⟩, h3⟩, h4⟩, h5⟩ := hh
      refine rd (j + 1) ⟨by omega, by omega, all_step hj2 hx ⟨h1, mem_pos h3, mem_pos h4⟩, edges_st hx hy hj3 ?_⟩
      rcases Nat.eq_zero_or_pos j with h0 | h0
      · exact Or.inl (by omega)
      · rcases h2 with h2 | h2
        · exact Or.inl h2
        · exact Or.inr ((lessE_key (hj2 y (mem_prev h0 hy)).1 h1).1 h2)
  rw [List.take_of_length_le hge'] at hj2 hj3
  repeat' (first | refine E.st ?_ | refine E.q ?_ | refine E.qs ?_ | refine E.q2 ?_ | refine E.tr ?_ | refine E.ap (fun _ _ => ?_) | refine E.b1 (fun _ _ => ?_) | refine E.b0 (fun _ _ => ?_) | refine E.bsn (fun _ _ => ?_) | refine E.mk (fun _ _ => ?_) | refine E.bx (fun _ => ?_) | refine E.al (fun _ => ?_) | refine E.sb ?_ | refine E.dq ?_ | refine E.ct ?_ | refine E.cf ?_ | refine E.cs (fun hh => ?_) (fun hh => ?_) | refine E.at_block_other rfl ?_)
  refine lq (fun a : Nat => a ≤ 8 ∧ ∀ b : Nat, b < a → nlab ns b ≤ 5 ∧ elbC es b ≤ 7) (fun k => [(6, .pl (.int .i64 (k : Int)))]) (fun _ => []) (fun k => 8 - k) 0 ⟨by omega, fun b hb => absurd hb (by omega)⟩ (fun a ha0 => ?_)
  obtain ⟨ha1, ha2⟩ := ha0
  rcases Nat.lt_or_ge a 8 with hlt | hge''
  · repeat' (first | refine E.st ?_ | refine E.cl (h := fun _ w _ => c_s_l2Nodes w) (k := ?_) | refine E.cl (h := fun _ w _ => c_s_l2Edges w) (k := ?_)  | refine E.q ?_ | refine E.qs ?_ | refine E.q2 ?_ | refine E.tr ?_ | refine E.ap (fun _ _ => ?_) | refine E.b1 (fun _ _ => ?_) | refine E.b0 (fun _ _ => ?_) | refine E.bsn (fun _ _ => ?_) | refine E.mk (fun _ _ => ?_) | refine E.bx (fun _ => ?_) | refine E.al (fun _ => ?_) | refine E.sb ?_ | refine E.dq ?_ | refine E.ct ?_ | refine E.cf ?_ | refine E.cs (fun hh => ?_) (fun hh => ?_) | refine E.at_block_other rfl ?_)
    · refine rb ?_
      have hm : (a : Int) ∈ labs := mem_labs.2 (by omega)
      rcases hh with h | h
      · exact (gok_no_n (fun hn => by have := hn.2.2 _ hm; simp only [nlab] at h; omega)).symm
      · exact (gok_no_e (fun hn => by have := hn.2.2 _ hm; simp only [elbC] at h; omega)).symm
    · refine rd (a + 1) ⟨by omega, fun b hb => ?_⟩
      rcases Nat.lt_or_ge b a with h | h
      · exact ha2 b h
      · have : b = a := by omega
        subst this
        obtain ⟨h1, h2⟩ := hh
        omega
  · repeat' (first | refine E.st ?_ | refine E.q ?_ | refine E.qs ?_ | refine E.q2 ?_ | refine E.tr ?_ | refine E.ap (fun _ _ => ?_) | refine E.b1 (fun _ _ => ?_) | refine E.b0 (fun _ _ => ?_) | refine E.bsn (fun _ _ => ?_) | refine E.mk (fun _ _ => ?_) | refine E.bx (fun _ => ?_) | refine E.al (fun _ => ?_) | refine E.sb ?_ | refine E.dq ?_ | refine E.ct ?_ | refine E.cf ?_ | refine E.cs (fun hh => ?_) (fun hh => ?_) | refine E.at_block_other rfl ?_)
    refine rb ?_
    have hb : ∀ a ∈ labs, nlab ns a ≤ 5 ∧ elbC es a ≤ 7 := fun a ha => by
      have hm := mem_labs.1 ha
      have := ha2 a.toNat (by omega)
      rwa [Int.toNat_of_nonneg hm.1] at this
    exact (gok_iff.2 ⟨⟨hk2, hk3, fun a ha => (hb a ha).1⟩, hj2, hj3, fun a ha => (hb a ha).2⟩).symm
end E
end Go.Proofs.Ytjdagbicjhmeeaa
