/- Contracts on graphs: whether a graph is right, as the program says it (the walks). -/
import Derived.Test.YtjdagbicjhmeeaaCc
namespace Go.Proofs.Ytjdagbicjhmeeaa
namespace E
open Go Go.RowKit
set_option linter.unusedSimpArgs false
set_option linter.unusedVariables false
set_option maxHeartbeats 1000000
set_option maxRecDepth 10000
attribute [local irreducible] HC HL HQ HX HO At Y YV Opd Opds KnX Sl Ld Src GV RV Calls Code.wp eptr adr RdF ownF OneX HG LdC
/-- A list in order parts at a number. -/
theorem parts {α : Type} (f : α → Int) : ∀ (xs : List α) (c : Int), xs.Pairwise (fun x y => f x < f y) → ∃ m, m ≤ xs.length ∧ (∀ (i : Nat) x, xs[i]? = some x → i < m → f x < c) ∧ ∀ (i : Nat) x, xs[i]? = some x → m ≤ i → c ≤ f x
  | [], c, _ => ⟨0, Nat.le_refl _, fun i x h => by simp at h, fun i x h => by simp at h⟩
  | y :: ys, c, h => by
    obtain ⟨h1, h2⟩ := List.pairwise_cons.1 h
    rcases Int.lt_or_le (f y) c with hlt | hge
    · obtain ⟨m, m1, m2, m3⟩ := parts f ys c h2
      refine ⟨m + 1, by simp; omega, fun i x hx hi => ?_, fun i x hx hi => ?_⟩
      · cases i with
        | zero => simp only [List.getElem?_cons_zero, Option.some.injEq] at hx; subst hx; exact hlt
        | succ i => exact m2 i x (by simpa using hx) (by omega)
      · cases i with
        | zero => omega
        | succ i => exact m3 i x (by simpa using hx) (by omega)
    · refine ⟨0, Nat.zero_le _, fun i x hx hi => absurd hi (by omega), fun i x hx _ => ?_⟩
      cases i with
      | zero => simp only [List.getElem?_cons_zero, Option.some.injEq] at hx; subst hx; exact hge
      | succ i =>
        have := h1 x (List.mem_of_getElem? (by simpa using hx))
        omega
/-- The nodes are right and in order. -/
def Ord (ns : List Nd) : Prop := (∀ x ∈ ns, nok x = true) ∧ ns.Pairwise (fun x y => cd x < cd y)
theorem Ord.code {ns : List Nd} (h : Ord ns) : ns.Pairwise (fun x y => code x < code y) := by
  refine h.2.imp_of_mem (fun {a b} ha hb hab => ?_)
  rw [code_cd (h.1 a ha), code_cd (h.1 b hb)]
  exact hab
theorem NOk.ord {ns : List Nd} (h : NOk ns) : Ord ns := ⟨h.1, h.2.1⟩
theorem at_m {ns : List Nd} {t : Nd} {m : Nat} (ho : Ord ns) (ht : nok t = true) (h1 : ∀ (i : Nat) x, ns[i]? = some x → i < m → code x < code t) (h2 : ∀ (i : Nat) x, ns[i]? = some x → m ≤ i → code t ≤ code x) : (match ns[m]? with | some x => decide (code x = code t) | none => false) = decide (t ∈ ns) := by
  cases hm : ns[m]? with
  | none =>
    simp only []
    symm
    apply decide_eq_false
    intro hin
    obtain ⟨i, hi⟩ := List.getElem?_of_mem hin
    rcases Nat.lt_or_ge i m with h | h
    · have := h1 i t hi h
      omega
    · have h3 := (List.getElem?_eq_some_iff.1 hi).1
      have h4 := List.getElem?_eq_none_iff.1 hm
      omega
  | some x =>
    simp only []
    rw [decide_eq_decide]
    constructor
    · intro h
      have hx := mem_of hm
      have : x = t := by
        refine cd_inj (ho.1 x hx) ht ?_
        rw [← code_cd (ho.1 x hx), ← code_cd ht, h]
      subst this
      exact hx
    · intro hin
      obtain ⟨i, hi⟩ := List.getElem?_of_mem hin
      have hle := h2 m x hm (Nat.le_refl _)
      rcases Nat.lt_trichotomy i m with h | h | h
      · have := h1 i t hi h
        omega
      · subst h
        rw [hm] at hi
        injection hi with hi
        rw [hi]
      · obtain ⟨hi', e1⟩ := List.getElem?_eq_some_iff.1 hi
        obtain ⟨hm', e2⟩ := List.getElem?_eq_some_iff.1 hm
        have := List.pairwise_iff_getElem.1 ho.code m i hm' hi' h
        rw [e1, e2] at this
        omega
theorem c_nodeThere {v : Value} {ns : List Nd} {l n : Int} (w : World) (ho : Ord ns) (ht : nok ⟨l, n⟩ = true) (hb : ns.length ≤ 1048576 := by omega) (hr : RdF w v ns := by exact rdA) :
    Calls Try.prog 106 #[v, .agg #[.int .i64 l, .int .i64 n]] w (Ret (fun _ : Unit => .bool (decide ((⟨l, n⟩ : Nd) ∈ ns))) (fun _ => []) w) := by
  obtain ⟨m, m1, m2, m3⟩ := parts code ns (code ⟨l, n⟩) ho.code
  refine enter (args := _) Try.func106 rfl Try.ntmps106 (by simp) ?_
  repeat' (first | refine E.st ?_ | refine E.cl (h := fun _ w _ => c_bsN m w m1 m2 m3) (k := ?_)  | refine E.q ?_ | refine E.qs ?_ | refine E.q2 ?_ | refine E.tr ?_ | refine E.ap (fun _ _ => ?_) | refine E.b1 (fun _ _ => ?_) | refine E.b0 (fun _ _ => ?_) | refine E.bsn (fun _ _ => ?_) | refine E.mk (fun _ _ => ?_) | refine E.bx (fun _ => ?_) | refine E.al (fun _ => ?_) | refine E.sb ?_ | refine E.dq ?_ | refine E.ct ?_ | refine E.cf ?_ | refine E.cs (fun hh => ?_) (fun hh => ?_) | refine E.at_block_other rfl ?_)
  exact rb (at_m ho ht m2 m3)
theorem lb_of {x : Nd} {z : Int} (hz : -1 ≤ z) (h : ¬ code x ≤ z) : nok x = true := by
  cases hn : nok x with
  | true => rfl
  | false => simp [code, hn] at h; omega
theorem c_nodesOk {v : Value} {ns : List Nd} (w : World) (hr : RdF w v ns := by exact rdA) : Calls Try.prog 83 #[v] w (Ret (fun _ : Unit => .bool (decide (NOk ns))) (fun _ => []) w) := by
  have m1 := hr.le
  simp only [maxLen] at m1
  refine enter (args := _) Try.func83 rfl Try.ntmps83 (by simp) ?_
  repeat' (first | refine E.st ?_ | refine E.alI (List.replicate 8 0) (fun _ => ?_) | refine E.q ?_ | refine E.qs ?_ | refine E.q2 ?_ | refine E.tr ?_ | refine E.ap (fun _ _ => ?_) | refine E.b1 (fun _ _ => ?_) | refine E.b0 (fun _ _ => ?_) | refine E.bsn (fun _ _ => ?_) | refine E.mk (fun _ _ => ?_) | refine E.bx (fun _ => ?_) | refine E.al (fun _ => ?_) | refine E.sb ?_ | refine E.dq ?_ | refine E.ct ?_ | refine E.cf ?_ | refine E.cs (fun hh => ?_) (fun hh => ?_) | refine E.at_block_other rfl ?_)
  rename_i g
  refine lq (fun p : Nat × Int => p.1 ≤ ns.length ∧ (∀ x ∈ ns.take p.1, nok x = true) ∧ (ns.take p.1).Pairwise (fun x y => cd x < cd y) ∧ (∀ a ∈ labs, (ns.take p.1).countP (fun x => decide (x.l = a)) ≤ 5) ∧ (p.1 = 0 ∧ p.2 = -1 ∨ 0 < p.1 ∧ ∃ y, ns[p.1 - 1]? = some y ∧ p.2 = cd y)) (fun p => [(4, .pl (.int .i64 p.2)), (10, .pl (.int .i64 (p.1 : Int)))]) (fun p => [.box g 136 (ics (cnts (·.l) (ns.take p.1)))]) (fun p => ns.length - p.1) (0, -1) ⟨Nat.zero_le _, by simp, by simp, by simp, Or.inl ⟨rfl, rfl⟩⟩ (fun p hp => ?_) (hK := Spl.box pk (by simp [cnts, labs, List.replicate]) (Spl.nil _))
  obtain ⟨k, z⟩ := p
  obtain ⟨hk1, hk2, hk3, hk4, hk5⟩ := hp
  dsimp only at hk1 hk2 hk3 hk4 hk5 ⊢
  have hz : -1 ≤ z := by
    rcases hk5 with ⟨_, h⟩ | ⟨h0, y, hy, h⟩
    · omega
    · have := cd_bd (hk2 y (by rw [List.mem_take_iff_getElem]; obtain ⟨a, b⟩ := List.getElem?_eq_some_iff.1 hy; exact ⟨k - 1, by omega, b⟩))
      omega
  rcases Nat.lt_or_ge k ns.length with hlt | hge
  · obtain ⟨x, hx⟩ := get_lt hlt
    have hb : ¬ code x ≤ z → x.l = (x.l.toNat : Int) ∧ x.l.toNat < 8 := fun h => by
      have := nok_iff.1 (lb_of hz h)
      omega
    have hb1 : (!decide (code x ≤ z)) = true → x.l = (x.l.toNat : Int) ∧ x.l.toNat < 8 := fun h => hb (by simpa using h)
    have hb2 : (!decide (code x ≤ z)) = true → (cnts (·.l) (ns.take k))[x.l.toNat]? = some (((ns.take k).countP (fun y => decide (y.l = x.l)) : Nat) : Int) := fun h => cnts_get _ _ (by have := hb1 h; omega)
    have hb3 : ¬ code x ≤ z → (cnts (·.l) (ns.take k))[x.l.toNat]? = some (((ns.take k).countP (fun y => decide (y.l = x.l)) : Nat) : Int) := fun h => cnts_get _ _ (by have := hb h; omega)
    have hcl := count_lt (xs := ns) k (fun y => decide (y.l = x.l))
    repeat' (first | refine E.st ?_ | refine E.cl (h := fun _ w _ => c_i_NodeCode w) (k := ?_) | refine E.qy (hy := E.a_idxA (hk := hb1)) (hr := ?_) | refine E.qy (hy := E.a_loadI (hk := hb2)) (hr := ?_) | refine E.qy (hy := E.a_idxA (hk := fun _ => hb hh.1)) (hr := ?_) | refine E.qy (hy := E.a_loadI (hk := fun _ => hb3 hh.1)) (hr := ?_) | refine E.si ?_ (hk := by rw [cnts_length]; exact (hb hh.1).2) | refine E.q ?_ | refine E.qs ?_ | refine E.q2 ?_ | refine E.tr ?_ | refine E.ap (fun _ _ => ?_) | refine E.b1 (fun _ _ => ?_) | refine E.b0 (fun _ _ => ?_) | refine E.bsn (fun _ _ => ?_) | refine E.mk (fun _ _ => ?_) | refine E.bx (fun _ => ?_) | refine E.al (fun _ => ?_) | refine E.sb ?_ | refine E.dq ?_ | refine E.ct ?_ | refine E.cf ?_ | refine E.cs (fun hh => ?_) (fun hh => ?_) | refine E.at_block_other rfl ?_)
    · refine rb (decide_eq_false (fun hn => ?_)).symm
      have hx0 := hn.1 x (mem_of hx)
      rcases hh with h | h
      · have h' : code x ≤ z := h
        have hx1 := cd_bd hx0
        rw [code_cd hx0] at h'
        rcases hk5 with ⟨_, hz'⟩ | ⟨h0, y, hy, hz'⟩
        · omega
        · exact pw_no hx h0 hy (by omega) hn.2.1
      · have hc := hn.2.2 x.l (mem_labs.2 (by have := nok_iff.1 hx0; omega))
        have h1 := count_step (fun y : Nd => decide (y.l = x.l)) hx
        have h2 := count_take_le (xs := ns) (k := k + 1) (fun y : Nd => decide (y.l = x.l))
        simp only [decide_true, if_true] at h1
        omega
    · have hx0 := lb_of hz (show ¬ code x ≤ z from hh.1)
      have hx2 := nok_iff.1 hx0
      have h' : ¬ code x ≤ z := hh.1
      rw [code_cd hx0] at h'
      refine rd (k + 1, code x) ⟨by dsimp only; omega, all_step hk2 hx hx0, pw_step trans_cd hk3 hx ?_, fun a ha => ?_, Or.inr ⟨by dsimp only; omega, x, by simpa using hx, code_cd hx0⟩⟩ (hK := KSub.box pk (congrArg ics (cnts_set (·.l) hx (by omega))) (KSub.nil _))
      · rcases hk5 with ⟨h0, _⟩ | ⟨h0, y, hy, hz'⟩
        · exact Or.inl h0
        · exact Or.inr ⟨y, hy, by omega⟩
      · have h1 := count_step (fun y : Nd => decide (y.l = a)) hx
        have h2 := hk4 a ha
        dsimp only
        by_cases he : x.l = a
        · subst he
          have h3 := hh.2
          simp only [decide_true, if_true] at h1
          omega
        · simp only [he, decide_false, Bool.false_eq_true, if_false] at h1
          omega
  · repeat' (first | refine E.st ?_ | refine E.q ?_ | refine E.qs ?_ | refine E.q2 ?_ | refine E.tr ?_ | refine E.ap (fun _ _ => ?_) | refine E.b1 (fun _ _ => ?_) | refine E.b0 (fun _ _ => ?_) | refine E.bsn (fun _ _ => ?_) | refine E.mk (fun _ _ => ?_) | refine E.bx (fun _ => ?_) | refine E.al (fun _ => ?_) | refine E.sb ?_ | refine E.dq ?_ | refine E.ct ?_ | refine E.cf ?_ | refine E.cs (fun hh => ?_) (fun hh => ?_) | refine E.at_block_other rfl ?_)
    rw [List.take_of_length_le hge] at hk2 hk3 hk4
    exact rb (decide_eq_true (⟨hk2, hk3, hk4⟩ : NOk ns)).symm
theorem ord_key {y x : Eg} (hy : eok y = true) (hx : eok x = true) : 0 ≤ orI [cmpI y.l x.l, cmpI (code y.a) (code x.a), cmpI (code y.b) (code x.b)] ↔ ekey x ≤ ekey y := by
  obtain ⟨a1, a2, a3, _⟩ := eok_parts hy
  obtain ⟨b1, b2, b3, _⟩ := eok_parts hx
  have h1 := cd_bd a2; have h2 := cd_bd a3; have h3 := cd_bd b2; have h4 := cd_bd b3
  have l1 := lok_iff.1 a1; have l2 := lok_iff.1 b1
  rw [code_cd a2, code_cd a3, code_cd b2, code_cd b3]
  unfold ekey
  generalize cd y.a = p at *; generalize cd y.b = q at *; generalize cd x.a = p' at *; generalize cd x.b = q' at *
  simp only [orI, cmpI]
  grind
theorem c_edgesOk {v u : Value} {ns : List Nd} {es : List Eg} (w : World) (ho : Ord ns) (hb : ns.length ≤ 1048576 := by omega) (hq : RdF w v es := by exact rdA) (hr : RdF w u ns := by exact rdA) : Calls Try.prog 84 #[v, u] w (Ret (fun _ : Unit => .bool (decide (EOk ns es))) (fun _ => []) w) := by
  have m1 := hq.le
  simp only [maxLen] at m1
  refine enter (args := _) Try.func84 rfl Try.ntmps84 (by simp) ?_
  repeat' (first | refine E.st ?_ | refine E.alI (List.replicate 8 0) (fun _ => ?_) | refine E.q ?_ | refine E.qs ?_ | refine E.q2 ?_ | refine E.tr ?_ | refine E.ap (fun _ _ => ?_) | refine E.b1 (fun _ _ => ?_) | refine E.b0 (fun _ _ => ?_) | refine E.bsn (fun _ _ => ?_) | refine E.mk (fun _ _ => ?_) | refine E.bx (fun _ => ?_) | refine E.al (fun _ => ?_) | refine E.sb ?_ | refine E.dq ?_ | refine E.ct ?_ | refine E.cf ?_ | refine E.cs (fun hh => ?_) (fun hh => ?_) | refine E.at_block_other rfl ?_)
  rename_i g
  refine lq (fun k : Nat => k ≤ es.length ∧ (∀ e ∈ es.take k, eok e = true ∧ e.a ∈ ns ∧ e.b ∈ ns) ∧ (es.take k).Pairwise (fun x y => ekey x < ekey y) ∧ (∀ a ∈ labs, (es.take k).countP (fun x => decide (x.l = a)) ≤ 7)) (fun k => [(10, .pl (.int .i64 (k : Int)))]) (fun k => [.box g 136 (ics (cnts (·.l) (es.take k)))]) (fun k => es.length - k) 0 ⟨Nat.zero_le _, by simp, by simp, by simp⟩ (fun k hp => ?_) (hK := Spl.box pk (by simp [cnts, labs, List.replicate]) (Spl.nil _))
  obtain ⟨hk1, hk2, hk3, hk4⟩ := hp
  rcases Nat.lt_or_ge k es.length with hlt | hge
  · obtain ⟨x, hx⟩ := get_lt hlt
    obtain ⟨y, hy⟩ := prev hlt
    have hbd : eok x = true → x.l = (x.l.toNat : Int) ∧ x.l.toNat < 8 := fun h => by
      have := lok_iff.1 (eok_parts h).1
      omega
    have hb1 : (!!eok x) = true → x.l = (x.l.toNat : Int) ∧ x.l.toNat < 8 := fun h => hbd (by simpa using h)
    have hb3 : eok x = true → (cnts (·.l) (es.take k))[x.l.toNat]? = some (((es.take k).countP (fun y => decide (y.l = x.l)) : Nat) : Int) := fun h => cnts_get _ _ (by have := hbd h; omega)
    have hb2 : (!!eok x) = true → (cnts (·.l) (es.take k))[x.l.toNat]? = some (((es.take k).countP (fun y => decide (y.l = x.l)) : Nat) : Int) := fun h => hb3 (by simpa using h)
    have hcl := count_lt (xs := es) k (fun y => decide (y.l = x.l))
    by_cases he : eok x = true
    · obtain ⟨p1, p2, p3, _⟩ := eok_parts he
      repeat' (first | refine E.st ?_ | refine E.cl (h := fun _ w _ => c_i_EdgeOk w) (k := ?_) | refine E.cl (h := fun _ w _ => c_edgeOrder w) (k := ?_) | refine E.qy (hy := E.a_idxA (hk := hb1)) (hr := ?_) | refine E.qy (hy := E.a_loadI (hk := hb2)) (hr := ?_) | refine E.cl (h := fun _ w _ => c_nodeThere w ho p2 hb) (k := ?_) | refine E.cl (h := fun _ w _ => c_nodeThere w ho p3 hb) (k := ?_) | refine E.qy (hy := E.a_idxA (hk := fun _ => hbd he)) (hr := ?_) | refine E.qy (hy := E.a_loadI (hk := fun _ => hb3 he)) (hr := ?_) | refine E.si ?_ (hk := by rw [cnts_length]; exact (hbd he).2) | refine E.q ?_ | refine E.qs ?_ | refine E.q2 ?_ | refine E.tr ?_ | refine E.ap (fun _ _ => ?_) | refine E.b1 (fun _ _ => ?_) | refine E.b0 (fun _ _ => ?_) | refine E.bsn (fun _ _ => ?_) | refine E.mk (fun _ _ => ?_) | refine E.bx (fun _ => ?_) | refine E.al (fun _ => ?_) | refine E.sb ?_ | refine E.dq ?_ | refine E.ct ?_ | refine E.cf ?_ | refine E.cs (fun hh => ?_) (fun hh => ?_) | refine E.at_block_other rfl ?_)
      · refine rb (decide_eq_false (fun hn => ?_)).symm
        rcases hh with h | h
        · exact absurd he (by rw [show eok x = false from h]; simp)
        · have hc := hn.2.2 x.l (mem_labs.2 (lok_iff.1 p1))
          have h1 := count_step (fun y : Eg => decide (y.l = x.l)) hx
          have h2 := count_take_le (xs := es) (k := k + 1) (fun y : Eg => decide (y.l = x.l))
          simp only [decide_true, if_true] at h1
          omega
      · refine rb (decide_eq_false (fun hn => ?_)).symm
        have h0 : 0 < k := by omega
        have hye := (hk2 y (mem_prev h0 hy)).1
        have := (ord_key hye he).1 hh.2
        exact pw_no hx h0 (prev_eq h0 hy) (by omega) hn.2.1
      · refine rb (decide_eq_false (fun hn => ?_)).symm
        have hm := (hn.1 x (mem_of hx)).2
        rcases hh with h | h
        · exact h hm.1
        · exact h hm.2
      · rename_i h1 h2
        refine rd (k + 1) ⟨by omega, all_step hk2 hx ⟨he, hh.1, hh.2⟩, edges_st hx hy hk3 ?_, fun a ha => ?_⟩ (hK := KSub.box pk (congrArg ics (cnts_set (·.l) hx (lok_iff.1 p1))) (KSub.nil _))
        · rcases Nat.eq_zero_or_pos k with h0 | h0
          · exact Or.inl (by omega)
          · refine Or.inr ?_
            have hye := (hk2 y (mem_prev h0 hy)).1
            rcases h2 with h2 | h2
            · omega
            · have : ¬ ekey x ≤ ekey y := fun h => h2 ((ord_key hye he).2 h)
              omega
        · have h3 := count_step (fun y : Eg => decide (y.l = a)) hx
          have h4 := hk4 a ha
          by_cases hl : x.l = a
          · subst hl
            have h5 := h1.2
            simp only [decide_true, if_true] at h3
            omega
          · simp only [hl, decide_false, Bool.false_eq_true, if_false] at h3
            omega
    · repeat' (first | refine E.st ?_ | (exact absurd hh.1 he) | refine E.cl (h := fun _ w _ => c_i_EdgeOk w) (k := ?_) | refine E.qy (hy := E.a_idxA (hk := hb1)) (hr := ?_) | refine E.qy (hy := E.a_loadI (hk := hb2)) (hr := ?_) | refine E.q ?_ | refine E.qs ?_ | refine E.q2 ?_ | refine E.tr ?_ | refine E.ap (fun _ _ => ?_) | refine E.b1 (fun _ _ => ?_) | refine E.b0 (fun _ _ => ?_) | refine E.bsn (fun _ _ => ?_) | refine E.mk (fun _ _ => ?_) | refine E.bx (fun _ => ?_) | refine E.al (fun _ => ?_) | refine E.sb ?_ | refine E.dq ?_ | refine E.ct ?_ | refine E.cf ?_ | refine E.cs (fun hh => ?_) (fun hh => ?_) | refine E.at_block_other rfl ?_)
      exact rb (decide_eq_false (fun hn => he (hn.1 x (mem_of hx)).1)).symm
  · repeat' (first | refine E.st ?_ | refine E.q ?_ | refine E.qs ?_ | refine E.q2 ?_ | refine E.tr ?_ | refine E.ap (fun _ _ => ?_) | refine E.b1 (fun _ _ => ?_) | refine E.b0 (fun _ _ => ?_) | refine E.bsn (fun _ _ => ?_) | refine E.mk (fun _ _ => ?_) | refine E.bx (fun _ => ?_) | refine E.al (fun _ => ?_) | refine E.sb ?_ | refine E.dq ?_ | refine E.ct ?_ | refine E.cf ?_ | refine E.cs (fun hh => ?_) (fun hh => ?_) | refine E.at_block_other rfl ?_)
    rw [List.take_of_length_le hge] at hk2 hk3 hk4
    exact rb (decide_eq_true (⟨hk2, hk3, hk4⟩ : EOk ns es)).symm
theorem c_i_GraphOk {v u : Value} {ns : List Nd} {es : List Eg} (w : World) (hr : RdF w v ns := by exact rdA) (hq : RdF w u es := by exact rdA) : Calls Try.prog 50 #[.agg #[v, u]] w (Ret (fun _ : Unit => .bool (gok ns es)) (fun _ => []) w) := by
  have o1 := hr.one
  have o2 := hq.one
  refine enter (args := _) Try.func50 rfl Try.ntmps50 (by simp) ?_
  repeat' (first | refine E.st ?_ | refine E.cl (h := fun _ w _ => c_nodesOk w) (k := ?_) | refine E.cl (h := fun hc w _ => c_edgesOk w (NOk.ord (of_decide_eq_true hc)) (Nat.le_trans (NOk.len (of_decide_eq_true hc)) (by omega))) (k := ?_) | refine E.q ?_ | refine E.qs ?_ | refine E.q2 ?_ | refine E.tr ?_ | refine E.ap (fun _ _ => ?_) | refine E.b1 (fun _ _ => ?_) | refine E.b0 (fun _ _ => ?_) | refine E.bsn (fun _ _ => ?_) | refine E.mk (fun _ _ => ?_) | refine E.bx (fun _ => ?_) | refine E.al (fun _ => ?_) | refine E.sb ?_ | refine E.dq ?_ | refine E.ct ?_ | refine E.cf ?_ | refine E.cs (fun hh => ?_) (fun hh => ?_) | refine E.at_block_other rfl ?_)
  exact rb
end E
end Go.Proofs.Ytjdagbicjhmeeaa
