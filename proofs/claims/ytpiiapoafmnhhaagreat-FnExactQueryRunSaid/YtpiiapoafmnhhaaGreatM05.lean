/- Contracts on graphs: whether a graph is right, as the program says it. -/
import Derived.Test.YtpiiapoafmnhhaaGreatM04
namespace Go.Proofs.YtpiiapoafmnhhaaGreat
namespace E
open Go Go.RowKit
set_option linter.unusedSimpArgs false
set_option linter.unusedVariables false
set_option maxHeartbeats 1000000
set_option maxRecDepth 10000
attribute [local irreducible] HC HL HQ HX HO At Y YV Opd Opds KnX Sl Ld Src GV RV Calls Code.wp eptr adr RdF ownF OneX HG LdC
def cmpI (a b : Int) : Int := if a < b then -1 else if b < a then 1 else 0
theorem c_isNaN {a : Int} (w : World) : Calls Tryz.prog 217 #[.int .i64 a] w (Ret (fun _ : Unit => .bool false) (fun _ => []) w) := by
  refine enter (args := _) Tryz.func217 rfl Tryz.ntmps217 (by simp) ?_
  repeat' (first | refine E.st ?_ | refine E.q ?_ | refine E.qs ?_ | refine E.q2 ?_ | refine E.tr ?_ | refine E.ap (fun _ _ => ?_) | refine E.b1 (fun _ _ => ?_) | refine E.b0 (fun _ _ => ?_) | refine E.bsn (fun _ _ => ?_) | refine E.mk (fun _ _ => ?_) | refine E.bx (fun _ => ?_) | refine E.al (fun _ => ?_) | refine E.sb ?_ | refine E.dq ?_ | refine E.ct ?_ | refine E.cf ?_ | refine E.cs (fun hh => ?_) (fun hh => ?_) | refine E.at_block_other rfl ?_)
  refine rb ?_
  simp
theorem c_Compare {a b : Int} (w : World) : Calls Tryz.prog 184 #[.int .i64 a, .int .i64 b] w (Ret (fun _ : Unit => .int .i64 (cmpI a b)) (fun _ => []) w) := by
  refine enter (args := _) Tryz.func184 rfl Tryz.ntmps184 (by simp) ?_
  repeat' (first | refine E.st ?_ | refine E.cl (h := fun _ w _ => c_isNaN w) (k := ?_)  | refine E.q ?_ | refine E.qs ?_ | refine E.q2 ?_ | refine E.tr ?_ | refine E.ap (fun _ _ => ?_) | refine E.b1 (fun _ _ => ?_) | refine E.b0 (fun _ _ => ?_) | refine E.bsn (fun _ _ => ?_) | refine E.mk (fun _ _ => ?_) | refine E.bx (fun _ => ?_) | refine E.al (fun _ => ?_) | refine E.sb ?_ | refine E.dq ?_ | refine E.ct ?_ | refine E.cf ?_ | refine E.cs (fun hh => ?_) (fun hh => ?_) | refine E.at_block_other rfl ?_)
  all_goals (refine ri ?_; simp only [cmpI]; grind)
theorem c_nodeOrder {l n l' n' : Int} (w : World) : Calls Tryz.prog 136 #[.agg #[.int .i64 l, .int .i64 n], .agg #[.int .i64 l', .int .i64 n']] w (Ret (fun _ : Unit => .int .i64 (cmpI (code ⟨l, n⟩) (code ⟨l', n'⟩))) (fun _ => []) w) := by
  refine enter (args := _) Tryz.func136 rfl Tryz.ntmps136 (by simp) ?_
  repeat' (first | refine E.st ?_ | refine E.cl (h := fun _ w _ => c_i_NodeCode w) (k := ?_) | refine E.cl (h := fun _ w _ => c_Compare w) (k := ?_)  | refine E.q ?_ | refine E.qs ?_ | refine E.q2 ?_ | refine E.tr ?_ | refine E.ap (fun _ _ => ?_) | refine E.b1 (fun _ _ => ?_) | refine E.b0 (fun _ _ => ?_) | refine E.bsn (fun _ _ => ?_) | refine E.mk (fun _ _ => ?_) | refine E.bx (fun _ => ?_) | refine E.al (fun _ => ?_) | refine E.sb ?_ | refine E.dq ?_ | refine E.ct ?_ | refine E.cf ?_ | refine E.cs (fun hh => ?_) (fun hh => ?_) | refine E.at_block_other rfl ?_)
  exact ri
def orI : List Int → Int
  | [] => 0
  | x :: xs => if x ≠ 0 then x else orI xs
theorem orI_at {xs : List Int} {k : Nat} {x : Int} (h : ∀ y ∈ xs.take k, y = 0) (hx : xs[k]? = some x) (h0 : x ≠ 0) : orI xs = x := by
  induction xs generalizing k with
  | nil => simp at hx
  | cons y ys ih =>
    cases k with
    | zero =>
      simp only [List.getElem?_cons_zero, Option.some.injEq] at hx
      subst hx
      simp [orI, h0]
    | succ k =>
      have hy := h y (by simp)
      subst hy
      simp only [orI, ne_eq, not_true_eq_false, if_false]
      exact ih (k := k) (fun z hz => h z (by simp [hz])) (by simpa using hx)
theorem orI_none {xs : List Int} (h : ∀ y ∈ xs, y = 0) : orI xs = 0 := by
  induction xs with
  | nil => rfl
  | cons y ys ih =>
    have hy := h y (by simp)
    subst hy
    simp only [orI, ne_eq, not_true_eq_false, if_false]
    exact ih (fun z hz => h z (by simp [hz]))
theorem c_Or {v : Value} {xs : List Int} (w : World) (hr : RdF w v xs := by exact rdA) : Calls Tryz.prog 201 #[v] w (Ret (fun _ : Unit => .int .i64 (orI xs)) (fun _ => []) w) := by
  have m1 := hr.le
  simp only [maxLen] at m1
  refine enter (args := _) Tryz.func201 rfl Tryz.ntmps201 (by simp) ?_
  repeat' (first | refine E.st ?_ | refine E.q ?_ | refine E.qs ?_ | refine E.q2 ?_ | refine E.tr ?_ | refine E.ap (fun _ _ => ?_) | refine E.b1 (fun _ _ => ?_) | refine E.b0 (fun _ _ => ?_) | refine E.bsn (fun _ _ => ?_) | refine E.mk (fun _ _ => ?_) | refine E.bx (fun _ => ?_) | refine E.al (fun _ => ?_) | refine E.sb ?_ | refine E.dq ?_ | refine E.ct ?_ | refine E.cf ?_ | refine E.cs (fun hh => ?_) (fun hh => ?_) | refine E.at_block_other rfl ?_)
  refine lq (fun k : Nat => k ≤ xs.length ∧ ∀ y ∈ xs.take k, y = 0) (fun k => [(8, .pl (.int .i64 (k : Int)))]) (fun _ => []) (fun k => xs.length - k) 0 ⟨Nat.zero_le _, by simp⟩ (fun k hk0 => ?_)
  obtain ⟨hk1, hk2⟩ := hk0
  rcases Nat.lt_or_ge k xs.length with hlt | hge
  · obtain ⟨x, hx⟩ := get_lt hlt
    repeat' (first | refine E.st ?_ | refine E.q ?_ | refine E.qs ?_ | refine E.q2 ?_ | refine E.tr ?_ | refine E.ap (fun _ _ => ?_) | refine E.b1 (fun _ _ => ?_) | refine E.b0 (fun _ _ => ?_) | refine E.bsn (fun _ _ => ?_) | refine E.mk (fun _ _ => ?_) | refine E.bx (fun _ => ?_) | refine E.al (fun _ => ?_) | refine E.sb ?_ | refine E.dq ?_ | refine E.ct ?_ | refine E.cf ?_ | refine E.cs (fun hh => ?_) (fun hh => ?_) | refine E.at_block_other rfl ?_)
    · exact ri (orI_at hk2 hx hh).symm
    · exact rd (k + 1) ⟨by omega, all_step hk2 hx (by omega)⟩
  · repeat' (first | refine E.st ?_ | refine E.q ?_ | refine E.qs ?_ | refine E.q2 ?_ | refine E.tr ?_ | refine E.ap (fun _ _ => ?_) | refine E.b1 (fun _ _ => ?_) | refine E.b0 (fun _ _ => ?_) | refine E.bsn (fun _ _ => ?_) | refine E.mk (fun _ _ => ?_) | refine E.bx (fun _ => ?_) | refine E.al (fun _ => ?_) | refine E.sb ?_ | refine E.dq ?_ | refine E.ct ?_ | refine E.cf ?_ | refine E.cs (fun hh => ?_) (fun hh => ?_) | refine E.at_block_other rfl ?_)
    rw [List.take_of_length_le hge] at hk2
    exact ri (orI_none hk2).symm
/-- Three numbers that are written out. -/
theorem c_edgeOrder {l al an bl bn l' al' an' bl' bn' : Int} (w : World) : Calls Tryz.prog 168 #[.agg #[.int .i64 l, .int .i64 al, .int .i64 an, .int .i64 bl, .int .i64 bn], .agg #[.int .i64 l', .int .i64 al', .int .i64 an', .int .i64 bl', .int .i64 bn']] w (Ret (fun _ : Unit => .int .i64 (orI [cmpI l l', cmpI (code ⟨al, an⟩) (code ⟨al', an'⟩), cmpI (code ⟨bl, bn⟩) (code ⟨bl', bn'⟩)])) (fun _ => []) w) := by
  refine enter (args := _) Tryz.func168 rfl Tryz.ntmps168 (by simp) ?_
  repeat' (first | refine E.st ?_ | refine E.dx [0, 1, 2, 3, 5, 6, 7, 8, 10, 11, 12, 13, 4, 9, 14, 15, 16, 17] ?_ | refine E.cl (h := fun _ w _ => c_Compare w) (k := ?_) | refine E.cl (h := fun _ w _ => c_nodeOrder w) (k := ?_) | refine E.cl (h := fun _ w _ => c_Or w) (k := ?_)  | refine E.q ?_ | refine E.qs ?_ | refine E.q2 ?_ | refine E.tr ?_ | refine E.ap (fun _ _ => ?_) | refine E.b1 (fun _ _ => ?_) | refine E.b0 (fun _ _ => ?_) | refine E.bsn (fun _ _ => ?_) | refine E.mk (fun _ _ => ?_) | refine E.bx (fun _ => ?_) | refine E.al (fun _ => ?_) | refine E.sb ?_ | refine E.dq ?_ | refine E.ct ?_ | refine E.cf ?_ | refine E.cs (fun hh => ?_) (fun hh => ?_) | refine E.at_block_other rfl ?_)
  exact ri
theorem cmpI_lt {a b : Int} : cmpI a b < 0 ↔ a < b := by unfold cmpI; split <;> (try split) <;> omega
theorem cmpI_eq {a b : Int} : cmpI a b = 0 ↔ a = b := by unfold cmpI; split <;> (try split) <;> omega
theorem wrap_u64_of {z : Int} (h : 0 ≤ z ∧ z ≤ 18446744073709551615) : IntKind.u64.wrap z = z := IntWalk.u64_in _ h
theorem shr1 (n : Nat) : (n : Int).fdiv (2 ^ (min (Int.toNat 1) (IntKind.bits .u64))) = ((n / 2 : Nat) : Int) := by
  have : (2 : Int) ^ (min (Int.toNat 1) (IntKind.bits .u64)) = ((2 : Nat) : Int) := by decide
  rw [this, Int.fdiv_eq_ediv_of_nonneg _ (by omega)]
  rfl
/-- Among nodes in order: the place of the first that is not ahead of the given one, and whether that is it. -/
theorem c_bsN {v : Value} {ns : List Nd} {l n : Int} (m : Nat) (w : World) (hm : m ≤ ns.length) (h1 : ∀ (i : Nat) x, ns[i]? = some x → i < m → code x < code ⟨l, n⟩) (h2 : ∀ (i : Nat) x, ns[i]? = some x → m ≤ i → code ⟨l, n⟩ ≤ code x) (hb : ns.length ≤ 1048576 := by omega) (hr : RdF w v ns := by exact rdA) :
    Calls Tryz.prog 162 #[v, .agg #[.int .i64 l, .int .i64 n], .func (.func 136) #[] #[]] w (Ret (fun _ : Unit => .tuple #[.int .i64 (m : Int), .bool (match ns[m]? with | some x => decide (code x = code ⟨l, n⟩) | none => false)]) (fun _ => []) w) := by
  have m1 := hr.le
  simp only [maxLen] at m1
  refine enter (args := _) Tryz.func162 rfl Tryz.ntmps162 (by simp) ?_
  repeat' (first | refine E.st ?_ | refine E.q ?_ | refine E.qs ?_ | refine E.q2 ?_ | refine E.tr ?_ | refine E.ap (fun _ _ => ?_) | refine E.b1 (fun _ _ => ?_) | refine E.b0 (fun _ _ => ?_) | refine E.bsn (fun _ _ => ?_) | refine E.mk (fun _ _ => ?_) | refine E.bx (fun _ => ?_) | refine E.al (fun _ => ?_) | refine E.sb ?_ | refine E.dq ?_ | refine E.ct ?_ | refine E.cf ?_ | refine E.cs (fun hh => ?_) (fun hh => ?_) | refine E.at_block_other rfl ?_)
  refine lq (fun p : Nat × Nat => p.1 ≤ m ∧ m ≤ p.2 ∧ p.2 ≤ ns.length) (fun p => [(9, .pl (.int .i64 (p.1 : Int))), (10, .pl (.int .i64 (p.2 : Int)))]) (fun _ => []) (fun p => p.2 - p.1) (0, ns.length) ⟨Nat.zero_le _, hm, Nat.le_refl _⟩ (fun p hp => ?_)
  obtain ⟨lo, hi⟩ := p
  obtain ⟨hlo, hhi, hlen⟩ := hp
  dsimp only at hlo hhi hlen ⊢
  rcases Nat.lt_or_ge lo hi with hlt | hge
  · have e1 : IntKind.u64.wrap ((lo : Int) + hi) = ((lo + hi : Nat) : Int) := wrap_u64_of (by omega)
    have e2 : ((lo + hi : Nat) : Int).fdiv (2 ^ (min (Int.toNat 1) (IntKind.bits .u64))) = (((lo + hi) / 2 : Nat) : Int) := shr1 _
    have e3 : IntKind.i64.wrap (((lo + hi) / 2 : Nat) : Int) = (((lo + hi) / 2 : Nat) : Int) := wrap_i64_of (by omega)
    obtain ⟨x, hx⟩ := get_lt (xs := ns) (k := (lo + hi) / 2) (by omega)
    repeat' (first | refine E.st ?_ | refine E.qy (hy := E.y_eqI E.a_conv (by assumption)) (hr := ?_) | refine E.qy (hy := E.y_eqI E.a_shr (by assumption)) (hr := ?_) | refine E.clt (h := fun _ w _ => c_nodeOrder w) (k := ?_) | refine E.q ?_ | refine E.qs ?_ | refine E.q2 ?_ | refine E.tr ?_ | refine E.ap (fun _ _ => ?_) | refine E.b1 (fun _ _ => ?_) | refine E.b0 (fun _ _ => ?_) | refine E.bsn (fun _ _ => ?_) | refine E.mk (fun _ _ => ?_) | refine E.bx (fun _ => ?_) | refine E.al (fun _ => ?_) | refine E.sb ?_ | refine E.dq ?_ | refine E.ct ?_ | refine E.cf ?_ | refine E.cs (fun hh => ?_) (fun hh => ?_) | refine E.at_block_other rfl ?_)
    · have this : code x < code ⟨l, n⟩ := cmpI_lt.1 hh
      have hk : (lo + hi) / 2 < m := by
        rcases Nat.lt_or_ge ((lo + hi) / 2) m with h | h
        · exact h
        · have := h2 _ x hx h
          omega
      exact rd ((lo + hi) / 2 + 1, hi) ⟨by dsimp only; omega, hhi, hlen⟩
    · have hk : m ≤ (lo + hi) / 2 := by
        rcases Nat.lt_or_ge ((lo + hi) / 2) m with h | h
        · have := h1 _ x hx h
          exact absurd (cmpI_lt.2 this) hh
        · exact h
      exact rd (lo, (lo + hi) / 2) ⟨hlo, hk, by dsimp only; omega⟩
  · have : lo = m := by omega
    subst this
    rcases Nat.lt_or_ge lo ns.length with hlt | hge'
    · obtain ⟨x, hx⟩ := get_lt hlt
      repeat' (first | refine E.st ?_ | refine E.clt (h := fun _ w _ => c_nodeOrder w) (k := ?_) | refine E.q ?_ | refine E.qs ?_ | refine E.q2 ?_ | refine E.tr ?_ | refine E.ap (fun _ _ => ?_) | refine E.b1 (fun _ _ => ?_) | refine E.b0 (fun _ _ => ?_) | refine E.bsn (fun _ _ => ?_) | refine E.mk (fun _ _ => ?_) | refine E.bx (fun _ => ?_) | refine E.al (fun _ => ?_) | refine E.sb ?_ | refine E.dq ?_ | refine E.ct ?_ | refine E.cf ?_ | refine E.cs (fun hh => ?_) (fun hh => ?_) | refine E.at_block_other rfl ?_)
      refine rn () (hv := ?_)
      have hlt' : (lo : Int) < ns.length := by omega
      simp [hx, hlt', cmpI_eq]
    · have hx : decide ((lo : Int) < ns.length) = true → ns[lo]? = some ⟨0, 0⟩ := fun h => by simp at h; omega
      repeat' (first | refine E.st ?_ | refine E.clt (h := fun _ w _ => c_nodeOrder w) (k := ?_) | refine E.q ?_ | refine E.qs ?_ | refine E.q2 ?_ | refine E.tr ?_ | refine E.ap (fun _ _ => ?_) | refine E.b1 (fun _ _ => ?_) | refine E.b0 (fun _ _ => ?_) | refine E.bsn (fun _ _ => ?_) | refine E.mk (fun _ _ => ?_) | refine E.bx (fun _ => ?_) | refine E.al (fun _ => ?_) | refine E.sb ?_ | refine E.dq ?_ | refine E.ct ?_ | refine E.cf ?_ | refine E.cs (fun hh => ?_) (fun hh => ?_) | refine E.at_block_other rfl ?_)
      refine rn () (hv := ?_)
      have hlt' : ¬ (lo : Int) < ns.length := by omega
      simp [List.getElem?_eq_none hge', hlt']
end E
end Go.Proofs.YtpiiapoafmnhhaaGreat
/- Contracts on graphs: whether a graph is right, as the program says it (the walks). -/
namespace Go.Proofs.YtpiiapoafmnhhaaGreat
namespace E
open Go Go.RowKit
set_option linter.unusedSimpArgs false
set_option linter.unusedVariables false
set_option maxHeartbeats 1000000
set_option maxRecDepth 10000
attribute [local irreducible] HC HL HQ HX HO At Y YV Opd Opds KnX Sl Ld Src GV RV Calls Code.wp eptr adr RdF ownF OneX HG LdC
/-- A list in order parts at a number. -/
theorem parts {α : Type} (f : α → Int) : ∀ (xs : List α) (c : Int), xs.Pairwise (fun x y => f x < f y) → ∃ m, m ≤ xs.length ∧ (∀ (i : Nat) x, xs[i]? = some x → i < m → f x < c) ∧ ∀ (i : Nat) x, xs[i]? = some x → m ≤ i → c ≤ f x
  | [], c, _ => ⟨0, Nat.le_refl _, fun i x h => by simp at h, fun i x h => by simp at h⟩
  | y :: ys, c, h => by
    obtain ⟨h1, h2⟩ := List.pairwise_cons.1 h
    rcases Int.lt_or_le (f y) c with hlt | hge
    · obtain ⟨m, m1, m2, m3⟩ := parts f ys c h2
      refine ⟨m + 1, by simp; omega, fun i x hx hi => ?_, fun i x hx hi => ?_⟩
      · cases i with
        | zero => simp only [List.getElem?_cons_zero, Option.some.injEq] at hx; subst hx; exact hlt
        | succ i => exact m2 i x (by simpa using hx) (by omega)
      · cases i with
        | zero => omega
        | succ i => exact m3 i x (by simpa using hx) (by omega)
    · refine ⟨0, Nat.zero_le _, fun i x hx hi => absurd hi (by omega), fun i x hx _ => ?_⟩
      cases i with
      | zero => simp only [List.getElem?_cons_zero, Option.some.injEq] at hx; subst hx; exact hge
      | succ i =>
        have := h1 x (List.mem_of_getElem? (by simpa using hx))
        omega
/-- The nodes are right and in order. -/
def Ord (ns : List Nd) : Prop := (∀ x ∈ ns, nok x = true) ∧ ns.Pairwise (fun x y => cd x < cd y)
theorem Ord.code {ns : List Nd} (h : Ord ns) : ns.Pairwise (fun x y => code x < code y) := by
  refine h.2.imp_of_mem (fun {a b} ha hb hab => ?_)
  rw [code_cd (h.1 a ha), code_cd (h.1 b hb)]
  exact hab
theorem NOk.ord {ns : List Nd} (h : NOk ns) : Ord ns := ⟨h.1, h.2.1⟩
theorem at_m {ns : List Nd} {t : Nd} {m : Nat} (ho : Ord ns) (ht : nok t = true) (h1 : ∀ (i : Nat) x, ns[i]? = some x → i < m → code x < code t) (h2 : ∀ (i : Nat) x, ns[i]? = some x → m ≤ i → code t ≤ code x) : (match ns[m]? with | some x => decide (code x = code t) | none => false) = decide (t ∈ ns) := by
  cases hm : ns[m]? with
  | none =>
    simp only []
    symm
    apply decide_eq_false
    intro hin
    obtain ⟨i, hi⟩ := List.getElem?_of_mem hin
    rcases Nat.lt_or_ge i m with h | h
    · have := h1 i t hi h
      omega
    · have h3 := (List.getElem?_eq_some_iff.1 hi).1
      have h4 := List.getElem?_eq_none_iff.1 hm
      omega
  | some x =>
    simp only []
    rw [decide_eq_decide]
    constructor
    · intro h
      have hx := mem_of hm
      have : x = t := by
        refine cd_inj (ho.1 x hx) ht ?_
        rw [← code_cd (ho.1 x hx), ← code_cd ht, h]
      subst this
      exact hx
    · intro hin
      obtain ⟨i, hi⟩ := List.getElem?_of_mem hin
      have hle := h2 m x hm (Nat.le_refl _)
      rcases Nat.lt_trichotomy i m with h | h | h
      · have := h1 i t hi h
        omega
      · subst h
        rw [hm] at hi
        injection hi with hi
        rw [hi]
      · obtain ⟨hi', e1⟩ := List.getElem?_eq_some_iff.1 hi
        obtain ⟨hm', e2⟩ := List.getElem?_eq_some_iff.1 hm
        have := List.pairwise_iff_getElem.1 ho.code m i hm' hi' h
        rw [e1, e2] at this
        omega
theorem c_nodeThere {v : Value} {ns : List Nd} {l n : Int} (w : World) (ho : Ord ns) (ht : nok ⟨l, n⟩ = true) (hb : ns.length ≤ 1048576 := by omega) (hr : RdF w v ns := by exact rdA) :
    Calls Tryz.prog 169 #[v, .agg #[.int .i64 l, .int .i64 n]] w (Ret (fun _ : Unit => .bool (decide ((⟨l, n⟩ : Nd) ∈ ns))) (fun _ => []) w) := by
  obtain ⟨m, m1, m2, m3⟩ := parts code ns (code ⟨l, n⟩) ho.code
  refine enter (args := _) Tryz.func169 rfl Tryz.ntmps169 (by simp) ?_
  repeat' (first | refine E.st ?_ | refine E.cl (h := fun _ w _ => c_bsN m w m1 m2 m3) (k := ?_)  | refine E.q ?_ | refine E.qs ?_ | refine E.q2 ?_ | refine E.tr ?_ | refine E.ap (fun _ _ => ?_) | refine E.b1 (fun _ _ => ?_) | refine E.b0 (fun _ _ => ?_) | refine E.bsn (fun _ _ => ?_) | refine E.mk (fun _ _ => ?_) | refine E.bx (fun _ => ?_) | refine E.al (fun _ => ?_) | refine E.sb ?_ | refine E.dq ?_ | refine E.ct ?_ | refine E.cf ?_ | refine E.cs (fun hh => ?_) (fun hh => ?_) | refine E.at_block_other rfl ?_)
  exact rb (at_m ho ht m2 m3)
theorem lb_of {x : Nd} {z : Int} (hz : -1 ≤ z) (h : ¬ code x ≤ z) : nok x = true := by
  cases hn : nok x with
  | true => rfl
  | false => simp [code, hn] at h; omega
theorem c_nodesOk {v : Value} {ns : List Nd} (w : World) (hr : RdF w v ns := by exact rdA) : Calls Tryz.prog 133 #[v] w (Ret (fun _ : Unit => .bool (decide (NOk ns))) (fun _ => []) w) := by
  have m1 := hr.le
  simp only [maxLen] at m1
  refine enter (args := _) Tryz.func133 rfl Tryz.ntmps133 (by simp) ?_
  repeat' (first | refine E.st ?_ | refine E.alI (List.replicate 8 0) (fun _ => ?_) | refine E.q ?_ | refine E.qs ?_ | refine E.q2 ?_ | refine E.tr ?_ | refine E.ap (fun _ _ => ?_) | refine E.b1 (fun _ _ => ?_) | refine E.b0 (fun _ _ => ?_) | refine E.bsn (fun _ _ => ?_) | refine E.mk (fun _ _ => ?_) | refine E.bx (fun _ => ?_) | refine E.al (fun _ => ?_) | refine E.sb ?_ | refine E.dq ?_ | refine E.ct ?_ | refine E.cf ?_ | refine E.cs (fun hh => ?_) (fun hh => ?_) | refine E.at_block_other rfl ?_)
  rename_i g
  refine lq (fun p : Nat × Int => p.1 ≤ ns.length ∧ (∀ x ∈ ns.take p.1, nok x = true) ∧ (ns.take p.1).Pairwise (fun x y => cd x < cd y) ∧ (∀ a ∈ labs, (ns.take p.1).countP (fun x => decide (x.l = a)) ≤ 5) ∧ (p.1 = 0 ∧ p.2 = -1 ∨ 0 < p.1 ∧ ∃ y, ns[p.1 - 1]? = some y ∧ p.2 = cd y)) (fun p => [(4, .pl (.int .i64 p.2)), (10, .pl (.int .i64 (p.1 : Int)))]) (fun p => [.box g 205 (ics (cnts (·.l) (ns.take p.1)))]) (fun p => ns.length - p.1) (0, -1) ⟨Nat.zero_le _, by simp, by simp, by simp, Or.inl ⟨rfl, rfl⟩⟩ (fun p hp => ?_) (hK := Spl.box pk (by simp [cnts, labs, List.replicate]) (Spl.nil _))
  obtain ⟨k, z⟩ := p
  obtain ⟨hk1, hk2, hk3, hk4, hk5⟩ := hp
  dsimp only at hk1 hk2 hk3 hk4 hk5 ⊢
  have hz : -1 ≤ z := by
    rcases hk5 with ⟨_, h⟩ | ⟨h0, y, hy, h⟩
    · omega
    · have := cd_bd (hk2 y (by rw [List.mem_take_iff_getElem]; obtain ⟨a, b⟩ := List.getElem?_eq_some_iff.1 hy; exact ⟨k - 1, by omega, b⟩))
      omega
  rcases Nat.lt_or_ge k ns.length with hlt | hge
  · obtain ⟨x, hx⟩ := get_lt hlt
    have hb : ¬ code x ≤ z → x.l = (x.l.toNat : Int) ∧ x.l.toNat < 8 := fun h => by
      have := nok_iff.1 (lb_of hz h)
      omega
    have hb1 : (!decide (code x ≤ z)) = true → x.l = (x.l.toNat : Int) ∧ x.l.toNat < 8 := fun h => hb (by simpa using h)
    have hb2 : (!decide (code x ≤ z)) = true → (cnts (·.l) (ns.take k))[x.l.toNat]? = some (((ns.take k).countP (fun y => decide (y.l = x.l)) : Nat) : Int) := fun h => cnts_get _ _ (by have := hb1 h; omega)
    have hb3 : ¬ code x ≤ z → (cnts (·.l) (ns.take k))[x.l.toNat]? = some (((ns.take k).countP (fun y => decide (y.l = x.l)) : Nat) : Int) := fun h => cnts_get _ _ (by have := hb h; omega)
    have hcl := count_lt (xs := ns) k (fun y => decide (y.l = x.l))
    repeat' (first | refine E.st ?_ | refine E.cl (h := fun _ w _ => c_i_NodeCode w) (k := ?_) | refine E.qy (hy := E.a_idxA (hk := hb1)) (hr := ?_) | refine E.qy (hy := E.a_loadI (hk := hb2)) (hr := ?_) | refine E.qy (hy := E.a_idxA (hk := fun _ => hb hh.1)) (hr := ?_) | refine E.qy (hy := E.a_loadI (hk := fun _ => hb3 hh.1)) (hr := ?_) | refine E.si ?_ (hk := by rw [cnts_length]; exact (hb hh.1).2) | refine E.q ?_ | refine E.qs ?_ | refine E.q2 ?_ | refine E.tr ?_ | refine E.ap (fun _ _ => ?_) | refine E.b1 (fun _ _ => ?_) | refine E.b0 (fun _ _ => ?_) | refine E.bsn (fun _ _ => ?_) | refine E.mk (fun _ _ => ?_) | refine E.bx (fun _ => ?_) | refine E.al (fun _ => ?_) | refine E.sb ?_ | refine E.dq ?_ | refine E.ct ?_ | refine E.cf ?_ | refine E.cs (fun hh => ?_) (fun hh => ?_) | refine E.at_block_other rfl ?_)
    · refine rb (decide_eq_false (fun hn => ?_)).symm
      have hx0 := hn.1 x (mem_of hx)
      rcases hh with h | h
      · have h' : code x ≤ z := h
        have hx1 := cd_bd hx0
        rw [code_cd hx0] at h'
        rcases hk5 with ⟨_, hz'⟩ | ⟨h0, y, hy, hz'⟩
        · omega
        · exact pw_no hx h0 hy (by omega) hn.2.1
      · have hc := hn.2.2 x.l (mem_labs.2 (by have := nok_iff.1 hx0; omega))
        have h1 := count_step (fun y : Nd => decide (y.l = x.l)) hx
        have h2 := count_take_le (xs := ns) (k := k + 1) (fun y : Nd => decide (y.l = x.l))
        simp only [decide_true, if_true] at h1
        omega
    · have hx0 := lb_of hz (show ¬ code x ≤ z from hh.1)
      have hx2 := nok_iff.1 hx0
      have h' : ¬ code x ≤ z := hh.1
      rw [code_cd hx0] at h'
      refine rd (k + 1, code x) ⟨by dsimp only; omega, all_step hk2 hx hx0, pw_step trans_cd hk3 hx ?_, fun a ha => ?_, Or.inr ⟨by dsimp only; omega, x, by simpa using hx, code_cd hx0⟩⟩ (hK := KSub.box pk (congrArg ics (cnts_set (·.l) hx (by omega))) (KSub.nil _))
      · rcases hk5 with ⟨h0, _⟩ | ⟨h0, y, hy, hz'⟩
        · exact Or.inl h0
        · exact Or.inr ⟨y, hy, by omega⟩
      · have h1 := count_step (fun y : Nd => decide (y.l = a)) hx
        have h2 := hk4 a ha
        dsimp only
        by_cases he : x.l = a
        · subst he
          have h3 := hh.2
          simp only [decide_true, if_true] at h1
          omega
        · simp only [he, decide_false, Bool.false_eq_true, if_false] at h1
          omega
  · repeat' (first | refine E.st ?_ | refine E.q ?_ | refine E.qs ?_ | refine E.q2 ?_ | refine E.tr ?_ | refine E.ap (fun _ _ => ?_) | refine E.b1 (fun _ _ => ?_) | refine E.b0 (fun _ _ => ?_) | refine E.bsn (fun _ _ => ?_) | refine E.mk (fun _ _ => ?_) | refine E.bx (fun _ => ?_) | refine E.al (fun _ => ?_) | refine E.sb ?_ | refine E.dq ?_ | refine E.ct ?_ | refine E.cf ?_ | refine E.cs (fun hh => ?_) (fun hh => ?_) | refine E.at_block_other rfl ?_)
    rw [List.take_of_length_le hge] at hk2 hk3 hk4
    exact rb (decide_eq_true (⟨hk2, hk3, hk4⟩ : NOk ns)).symm
theorem ord_key {y x : Eg} (hy : eok y = true) (hx : eok x = true) : 0 ≤ orI [cmpI y.l x.l, cmpI (code y.a) (code x.a), cmpI (code y.b) (code x.b)] ↔ ekey x ≤ ekey y := by
  obtain ⟨a1, a2, a3, _⟩ := eok_parts hy
  obtain ⟨b1, b2, b3, _⟩ := eok_parts hx
  have h1 := cd_bd a2; have h2 := cd_bd a3; have h3 := cd_bd b2; have h4 := cd_bd b3
  have l1 := lok_iff.1 a1; have l2 := lok_iff.1 b1
  rw [code_cd a2, code_cd a3, code_cd b2, code_cd b3]
  unfold ekey
  generalize cd y.a = p at *; generalize cd y.b = q at *; generalize cd x.a = p' at *; generalize cd x.b = q' at *
  simp only [orI, cmpI]
  grind
theorem c_edgesOk {v u : Value} {ns : List Nd} {es : List Eg} (w : World) (ho : Ord ns) (hb : ns.length ≤ 1048576 := by omega) (hq : RdF w v es := by exact rdA) (hr : RdF w u ns := by exact rdA) : Calls Tryz.prog 134 #[v, u] w (Ret (fun _ : Unit => .bool (decide (EOk ns es))) (fun _ => []) w) := by
  have m1 := hq.le
  simp only [maxLen] at m1
  refine enter (args := _) Tryz.func134 rfl Tryz.ntmps134 (by simp) ?_
  repeat' (first | refine E.st ?_ | refine E.alI (List.replicate 8 0) (fun _ => ?_) | refine E.q ?_ | refine E.qs ?_ | refine E.q2 ?_ | refine E.tr ?_ | refine E.ap (fun _ _ => ?_) | refine E.b1 (fun _ _ => ?_) | refine E.b0 (fun _ _ => ?_) | refine E.bsn (fun _ _ => ?_) | refine E.mk (fun _ _ => ?_) | refine E.bx (fun _ => ?_) | refine E.al (fun _ => ?_) | refine E.sb ?_ | refine E.dq ?_ | refine E.ct ?_ | refine E.cf ?_ | refine E.cs (fun hh => ?_) (fun hh => ?_) | refine E.at_block_other rfl ?_)
  rename_i g
  refine lq (fun k : Nat => k ≤ es.length ∧ (∀ e ∈ es.take k, eok e = true ∧ e.a ∈ ns ∧ e.b ∈ ns) ∧ (es.take k).Pairwise (fun x y => ekey x < ekey y) ∧ (∀ a ∈ labs, (es.take k).countP (fun x => decide (x.l = a)) ≤ 7)) (fun k => [(10, .pl (.int .i64 (k : Int)))]) (fun k => [.box g 205 (ics (cnts (·.l) (es.take k)))]) (fun k => es.length - k) 0 ⟨Nat.zero_le _, by simp, by simp, by simp⟩ (fun k hp => ?_) (hK := Spl.box pk (by simp [cnts, labs, List.replicate]) (Spl.nil _))
  obtain ⟨hk1, hk2, hk3, hk4⟩ := hp
  rcases Nat.lt_or_ge k es.length with hlt | hge
  · obtain ⟨x, hx⟩ := get_lt hlt
    obtain ⟨y, hy⟩ := prev hlt
    have hbd : eok x = true → x.l = (x.l.toNat : Int) ∧ x.l.toNat < 8 := fun h => by
      have := lok_iff.1 (eok_parts h).1
      omega
    have hb1 : (!!eok x) = true → x.l = (x.l.toNat : Int) ∧ x.l.toNat < 8 := fun h => hbd (by simpa using h)
    have hb3 : eok x = true → (cnts (·.l) (es.take k))[x.l.toNat]? = some (((es.take k).countP (fun y => decide (y.l = x.l)) : Nat) : Int) := fun h => cnts_get _ _ (by have := hbd h; omega)
    have hb2 : (!!eok x) = true → (cnts (·.l) (es.take k))[x.l.toNat]? = some (((es.take k).countP (fun y => decide (y.l = x.l)) : Nat) : Int) := fun h => hb3 (by simpa using h)
    have hcl := count_lt (xs := es) k (fun y => decide (y.l = x.l))
    by_cases he : eok x = true
    · obtain ⟨p1, p2, p3, _⟩ := eok_parts he
      repeat' (first | refine E.st ?_ | refine E.cl (h := fun _ w _ => c_i_EdgeOk w) (k := ?_) | refine E.cl (h := fun _ w _ => c_edgeOrder w) (k := ?_) | refine E.qy (hy := E.a_idxA (hk := hb1)) (hr := ?_) | refine E.qy (hy := E.a_loadI (hk := hb2)) (hr := ?_) | refine E.cl (h := fun _ w _ => c_nodeThere w ho p2 hb) (k := ?_) | refine E.cl (h := fun _ w _ => c_nodeThere w ho p3 hb) (k := ?_) | refine E.qy (hy := E.a_idxA (hk := fun _ => hbd he)) (hr := ?_) | refine E.qy (hy := E.a_loadI (hk := fun _ => hb3 he)) (hr := ?_) | refine E.si ?_ (hk := by rw [cnts_length]; exact (hbd he).2) | refine E.q ?_ | refine E.qs ?_ | refine E.q2 ?_ | refine E.tr ?_ | refine E.ap (fun _ _ => ?_) | refine E.b1 (fun _ _ => ?_) | refine E.b0 (fun _ _ => ?_) | refine E.bsn (fun _ _ => ?_) | refine E.mk (fun _ _ => ?_) | refine E.bx (fun _ => ?_) | refine E.al (fun _ => ?_) | refine E.sb ?_ | refine E.dq ?_ | refine E.ct ?_ | refine E.cf ?_ | refine E.cs (fun hh => ?_) (fun hh => ?_) | refine E.at_block_other rfl ?_)
      · refine rb (decide_eq_false (fun hn => ?_)).symm
        rcases hh with h | h
        · exact absurd he (by rw [show eok x = false from h]; simp)
        · have hc := hn.2.2 x.l (mem_labs.2 (lok_iff.1 p1))
          have h1 := count_step (fun y : Eg => decide (y.l = x.l)) hx
          have h2 := count_take_le (xs := es) (k := k + 1) (fun y : Eg => decide (y.l = x.l))
          simp only [decide_true, if_true] at h1
          omega
      · refine rb (decide_eq_false (fun hn => ?_)).symm
        have h0 : 0 < k := by omega
        have hye := (hk2 y (mem_prev h0 hy)).1
        have := (ord_key hye he).1 hh.2
        exact pw_no hx h0 (prev_eq h0 hy) (by omega) hn.2.1
      · refine rb (decide_eq_false (fun hn => ?_)).symm
        have hm := (hn.1 x (mem_of hx)).2
        rcases hh with h | h
        · exact h hm.1
        · exact h hm.2
      · rename_i h1 h2
        refine rd (k + 1) ⟨by omega, all_step hk2 hx ⟨he, hh.1, hh.2⟩, edges_st hx hy hk3 ?_, fun a ha => ?_⟩ (hK := KSub.box pk (congrArg ics (cnts_set (·.l) hx (lok_iff.1 p1))) (KSub.nil _))
        · rcases Nat.eq_zero_or_pos k with h0 | h0
          · exact Or.inl (by omega)
          · refine Or.inr ?_
            have hye := (hk2 y (mem_prev h0 hy)).1
            rcases h2 with h2 | h2
            · omega
            · have : ¬ ekey x ≤ ekey y := fun h => h2 ((ord_key hye he).2 h)
              omega
        · have h3 := count_step (fun y : Eg => decide (y.l = a)) hx
          have h4 := hk4 a ha
          by_cases hl : x.l = a
          · subst hl
            have h5 := h1.2
            simp only [decide_true, if_true] at h3
            omega
          · simp only [hl, decide_false, Bool.false_eq_true, if_false] at h3
            omega
    · repeat' (first | refine E.st ?_ | (exact absurd hh.1 he) | refine E.cl (h := fun _ w _ => c_i_EdgeOk w) (k := ?_) | refine E.qy (hy := E.a_idxA (hk := hb1)) (hr := ?_) | refine E.qy (hy := E.a_loadI (hk := hb2)) (hr := ?_) | refine E.q ?_ | refine E.qs ?_ | refine E.q2 ?_ | refine E.tr ?_ | refine E.ap (fun _ _ => ?_) | refine E.b1 (fun _ _ => ?_) | refine E.b0 (fun _ _ => ?_) | refine E.bsn (fun _ _ => ?_) | refine E.mk (fun _ _ => ?_) | refine E.bx (fun _ => ?_) | refine E.al (fun _ => ?_) | refine E.sb ?_ | refine E.dq ?_ | refine E.ct ?_ | refine E.cf ?_ | refine E.cs (fun hh => ?_) (fun hh => ?_) | refine E.at_block_other rfl ?_)
      exact rb (decide_eq_false (fun hn => he (hn.1 x (mem_of hx)).1)).symm
  · repeat' (first | refine E.st ?_ | refine E.q ?_ | refine E.qs ?_ | refine E.q2 ?_ | refine E.tr ?_ | refine E.ap (fun _ _ => ?_) | refine E.b1 (fun _ _ => ?_) | refine E.b0 (fun _ _ => ?_) | refine E.bsn (fun _ _ => ?_) | refine E.mk (fun _ _ => ?_) | refine E.bx (fun _ => ?_) | refine E.al (fun _ => ?_) | refine E.sb ?_ | refine E.dq ?_ | refine E.ct ?_ | refine E.cf ?_ | refine E.cs (fun hh => ?_) (fun hh => ?_) | refine E.at_block_other rfl ?_)
    rw [List.take_of_length_le hge] at hk2 hk3 hk4
    exact rb (decide_eq_true (⟨hk2, hk3, hk4⟩ : EOk ns es)).symm
theorem c_i_GraphOk {v u : Value} {ns : List Nd} {es : List Eg} (w : World) (hr : RdF w v ns := by exact rdA) (hq : RdF w u es := by exact rdA) : Calls Tryz.prog 73 #[.agg #[v, u]] w (Ret (fun _ : Unit => .bool (gok ns es)) (fun _ => []) w) := by
  have o1 := hr.one
  have o2 := hq.one
  refine enter (args := _) Tryz.func73 rfl Tryz.ntmps73 (by simp) ?_
  repeat' (first | refine E.st ?_ | refine E.cl (h := fun _ w _ => c_nodesOk w) (k := ?_) | refine E.cl (h := fun hc w _ => c_edgesOk w (NOk.ord (of_decide_eq_true hc)) (Nat.le_trans (NOk.len (of_decide_eq_true hc)) (by omega))) (k := ?_) | refine E.q ?_ | refine E.qs ?_ | refine E.q2 ?_ | refine E.tr ?_ | refine E.ap (fun _ _ => ?_) | refine E.b1 (fun _ _ => ?_) | refine E.b0 (fun _ _ => ?_) | refine E.bsn (fun _ _ => ?_) | refine E.mk (fun _ _ => ?_) | refine E.bx (fun _ => ?_) | refine E.al (fun _ => ?_) | refine E.sb ?_ | refine E.dq ?_ | refine E.ct ?_ | refine E.cf ?_ | refine E.cs (fun hh => ?_) (fun hh => ?_) | refine E.at_block_other rfl ?_)
  exact rb
end E
end Go.Proofs.YtpiiapoafmnhhaaGreat
/- Contracts on people, pages and pools that are right; and on worlds. -/
namespace Go.Proofs.YtpiiapoafmnhhaaGreat
namespace E
open Go Go.RowKit
set_option linter.unusedSimpArgs false
set_option linter.unusedVariables false
set_option maxHeartbeats 1000000
set_option maxRecDepth 10000
attribute [local irreducible] HC HL HQ HX HO At Y YV Opd Opds KnX Sl Ld Src GV RV Calls Code.wp eptr adr RdF ownF OneX HG LdC
def posG {α : Type} [DecidableEq α] (ns : List α) (n : α) : Int := match ns.findIdx? (fun x => decide (x = n)) with
  | some i => i
  | none => -1
theorem posG_some {α : Type} [DecidableEq α] {ns : List α} {n : α} {k : Nat} (hx : ns[k]? = some n) (h : ∀ y ∈ ns.take k, y ≠ n) : posG ns n = k := by
  obtain ⟨hk, e⟩ := List.getElem?_eq_some_iff.1 hx
  have : ns.findIdx? (fun x => decide (x = n)) = some k := by
    rw [List.findIdx?_eq_some_iff_getElem]
    refine ⟨hk, by simp [e], fun j hj => ?_⟩
    simp only [decide_eq_true_eq]
    refine h _ ?_
    rw [List.mem_take_iff_getElem]
    exact ⟨j, by omega, rfl⟩
  simp [posG, this]
theorem posG_none {α : Type} [DecidableEq α] {ns : List α} {n : α} (h : n ∉ ns) : posG ns n = -1 := by
  have : ns.findIdx? (fun x => decide (x = n)) = none := by
    rw [List.findIdx?_eq_none_iff]
    intro x hx
    simp only [decide_eq_false_iff_not]
    rintro rfl
    exact h hx
  simp [posG, this]
theorem posG_neg {α : Type} [DecidableEq α] {ns : List α} {n : α} : 0 ≤ posG ns n ↔ n ∈ ns := by
  constructor
  · intro h
    refine Decidable.byContradiction (fun hn => ?_)
    rw [posG_none hn] at h
    omega
  · intro h
    cases hf : ns.findIdx? (fun x => decide (x = n)) with
    | none =>
      rw [List.findIdx?_eq_none_iff] at hf
      have := hf n h
      simp at this
    | some k => simp [posG, hf]
def pok (x : Pe) : Bool := lok x.c && (decide (0 ≤ x.z) && decide (x.z ≤ 12)) && (decide (0 ≤ x.q) && decide (x.q ≤ 100))
def PsOk (ps : List Pe) : Prop := (∀ p ∈ ps, pok p = true) ∧ ps.length ≤ 4
instance (ps : List Pe) : Decidable (PsOk ps) := by unfold PsOk; exact inferInstance
def pgok (x : Pg) : Bool := lok x.l && (decide (0 ≤ x.a) && decide (x.a < 1000))
theorem c_s_PageOk {l a : Int} (w : World) : Calls Tryz.prog 118 #[.agg #[.int .i64 l, .int .i64 a]] w (Ret (fun _ : Unit => .bool (pgok ⟨l, a⟩)) (fun _ => []) w) := by
  refine enter (args := _) Tryz.func118 rfl Tryz.ntmps118 (by simp) ?_
  repeat' (first | refine E.st ?_ | refine E.cl (h := fun _ w _ => c_s_LabelOk w) (k := ?_)  | refine E.q ?_ | refine E.qs ?_ | refine E.q2 ?_ | refine E.tr ?_ | refine E.ap (fun _ _ => ?_) | refine E.b1 (fun _ _ => ?_) | refine E.b0 (fun _ _ => ?_) | refine E.bsn (fun _ _ => ?_) | refine E.mk (fun _ _ => ?_) | refine E.bx (fun _ => ?_) | refine E.al (fun _ => ?_) | refine E.sb ?_ | refine E.dq ?_ | refine E.ct ?_ | refine E.cf ?_ | refine E.cs (fun hh => ?_) (fun hh => ?_) | refine E.at_block_other rfl ?_)
  refine rb ?_
  simp [pgok, Bool.and_assoc]
theorem c_i_PageOk {l a : Int} (w : World) : Calls Tryz.prog 101 #[.agg #[.int .i64 l, .int .i64 a]] w (Ret (fun _ : Unit => .bool (pgok ⟨l, a⟩)) (fun _ => []) w) := by
  refine enter (args := _) Tryz.func101 rfl Tryz.ntmps101 (by simp) ?_
  repeat' (first | refine E.st ?_ | refine E.cl (h := fun _ w _ => c_i_LabelOk w) (k := ?_)  | refine E.q ?_ | refine E.qs ?_ | refine E.q2 ?_ | refine E.tr ?_ | refine E.ap (fun _ _ => ?_) | refine E.b1 (fun _ _ => ?_) | refine E.b0 (fun _ _ => ?_) | refine E.bsn (fun _ _ => ?_) | refine E.mk (fun _ _ => ?_) | refine E.bx (fun _ => ?_) | refine E.al (fun _ => ?_) | refine E.sb ?_ | refine E.dq ?_ | refine E.ct ?_ | refine E.cf ?_ | refine E.cs (fun hh => ?_) (fun hh => ?_) | refine E.at_block_other rfl ?_)
  refine rb ?_
  simp [pgok, Bool.and_assoc]
theorem pg_ne {x : Pg} {l n : Int} : ¬ [x.l, x.a] = [l, n] ↔ x ≠ ⟨l, n⟩ := by
  cases x; simp
theorem pg_ne' {x : Pg} {l n : Int} : ¬ [l, n] = [x.l, x.a] ↔ x ≠ ⟨l, n⟩ := by
  cases x; simp; grind
theorem c_l5At {v : Value} {xs : List Pg} {l a : Int} (w : World) (hr : RdF w v xs := by exact rdA) : Calls Tryz.prog 119 #[v, .agg #[.int .i64 l, .int .i64 a]] w (Ret (fun _ : Unit => .int .i64 (posG xs ⟨l, a⟩)) (fun _ => []) w) := by
  have m1 := hr.le
  simp only [maxLen] at m1
  refine enter (args := _) Tryz.func119 rfl Tryz.ntmps119 (by simp) ?_
  repeat' (first | refine E.st ?_ | refine E.q ?_ | refine E.qs ?_ | refine E.q2 ?_ | refine E.tr ?_ | refine E.ap (fun _ _ => ?_) | refine E.b1 (fun _ _ => ?_) | refine E.b0 (fun _ _ => ?_) | refine E.bsn (fun _ _ => ?_) | refine E.mk (fun _ _ => ?_) | refine E.bx (fun _ => ?_) | refine E.al (fun _ => ?_) | refine E.sb ?_ | refine E.dq ?_ | refine E.ct ?_ | refine E.cf ?_ | refine E.cs (fun hh => ?_) (fun hh => ?_) | refine E.at_block_other rfl ?_)
  refine lq (fun k : Nat => k ≤ xs.length ∧ ∀ y ∈ xs.take k, y ≠ ⟨l, a⟩) (fun k => [(5, .pl (.int .i64 (k : Int)))]) (fun _ => []) (fun k => xs.length - k) 0 ⟨Nat.zero_le _, by simp⟩ (fun k hk0 => ?_)
  obtain ⟨hk1, hk2⟩ := hk0
  rcases Nat.lt_or_ge k xs.length with hlt | hge
  · obtain ⟨x, hx⟩ := get_lt hlt
    repeat' (first | refine E.st ?_ | refine E.q ?_ | refine E.qs ?_ | refine E.q2 ?_ | refine E.tr ?_ | refine E.ap (fun _ _ => ?_) | refine E.b1 (fun _ _ => ?_) | refine E.b0 (fun _ _ => ?_) | refine E.bsn (fun _ _ => ?_) | refine E.mk (fun _ _ => ?_) | refine E.bx (fun _ => ?_) | refine E.al (fun _ => ?_) | refine E.sb ?_ | refine E.dq ?_ | refine E.ct ?_ | refine E.cf ?_ | refine E.cs (fun hh => ?_) (fun hh => ?_) | refine E.at_block_other rfl ?_)
    · refine ri ?_
      have : x = ⟨l, a⟩ := Decidable.not_not.1 (fun h => pg_ne.2 h hh)
      rw [posG_some (by rw [hx, this]) hk2]
    · exact rd (k + 1) ⟨by omega, all_step hk2 hx (pg_ne.1 hh)⟩
  · repeat' (first | refine E.st ?_ | refine E.q ?_ | refine E.qs ?_ | refine E.q2 ?_ | refine E.tr ?_ | refine E.ap (fun _ _ => ?_) | refine E.b1 (fun _ _ => ?_) | refine E.b0 (fun _ _ => ?_) | refine E.bsn (fun _ _ => ?_) | refine E.mk (fun _ _ => ?_) | refine E.bx (fun _ => ?_) | refine E.al (fun _ => ?_) | refine E.sb ?_ | refine E.dq ?_ | refine E.ct ?_ | refine E.cf ?_ | refine E.cs (fun hh => ?_) (fun hh => ?_) | refine E.at_block_other rfl ?_)
    refine ri ?_
    rw [List.take_of_length_le hge] at hk2
    rw [posG_none (fun h => hk2 _ h rfl)]
theorem c_idxPg {v : Value} {xs : List Pg} {l a : Int} (w : World) (hr : RdF w v xs := by exact rdA) : Calls Tryz.prog 177 #[v, .agg #[.int .i64 l, .int .i64 a]] w (Ret (fun _ : Unit => .int .i64 (posG xs ⟨l, a⟩)) (fun _ => []) w) := by
  have m1 := hr.le
  simp only [maxLen] at m1
  refine enter (args := _) Tryz.func177 rfl Tryz.ntmps177 (by simp) ?_
  repeat' (first | refine E.st ?_ | refine E.q ?_ | refine E.qs ?_ | refine E.q2 ?_ | refine E.tr ?_ | refine E.ap (fun _ _ => ?_) | refine E.b1 (fun _ _ => ?_) | refine E.b0 (fun _ _ => ?_) | refine E.bsn (fun _ _ => ?_) | refine E.mk (fun _ _ => ?_) | refine E.bx (fun _ => ?_) | refine E.al (fun _ => ?_) | refine E.sb ?_ | refine E.dq ?_ | refine E.ct ?_ | refine E.cf ?_ | refine E.cs (fun hh => ?_) (fun hh => ?_) | refine E.at_block_other rfl ?_)
  refine lq (fun k : Nat => k ≤ xs.length ∧ ∀ y ∈ xs.take k, y ≠ ⟨l, a⟩) (fun k => [(8, .pl (.int .i64 (k : Int)))]) (fun _ => []) (fun k => xs.length - k) 0 ⟨Nat.zero_le _, by simp⟩ (fun k hk0 => ?_)
  obtain ⟨hk1, hk2⟩ := hk0
  rcases Nat.lt_or_ge k xs.length with hlt | hge
  · obtain ⟨x, hx⟩ := get_lt hlt
    repeat' (first | refine E.st ?_ | refine E.q ?_ | refine E.qs ?_ | refine E.q2 ?_ | refine E.tr ?_ | refine E.ap (fun _ _ => ?_) | refine E.b1 (fun _ _ => ?_) | refine E.b0 (fun _ _ => ?_) | refine E.bsn (fun _ _ => ?_) | refine E.mk (fun _ _ => ?_) | refine E.bx (fun _ => ?_) | refine E.al (fun _ => ?_) | refine E.sb ?_ | refine E.dq ?_ | refine E.ct ?_ | refine E.cf ?_ | refine E.cs (fun hh => ?_) (fun hh => ?_) | refine E.at_block_other rfl ?_)
    · refine ri ?_
      have : x = ⟨l, a⟩ := Decidable.not_not.1 (fun h => pg_ne'.2 h hh)
      rw [posG_some (by rw [hx, this]) hk2]
    · exact rd (k + 1) ⟨by omega, all_step hk2 hx (pg_ne'.1 hh)⟩
  · repeat' (first | refine E.st ?_ | refine E.q ?_ | refine E.qs ?_ | refine E.q2 ?_ | refine E.tr ?_ | refine E.ap (fun _ _ => ?_) | refine E.b1 (fun _ _ => ?_) | refine E.b0 (fun _ _ => ?_) | refine E.bsn (fun _ _ => ?_) | refine E.mk (fun _ _ => ?_) | refine E.bx (fun _ => ?_) | refine E.al (fun _ => ?_) | refine E.sb ?_ | refine E.dq ?_ | refine E.ct ?_ | refine E.cf ?_ | refine E.cs (fun hh => ?_) (fun hh => ?_) | refine E.at_block_other rfl ?_)
    refine ri ?_
    rw [List.take_of_length_le hge] at hk2
    rw [posG_none (fun h => hk2 _ h rfl)]
theorem c_hasPg {v : Value} {xs : List Pg} {l a : Int} (w : World) (hr : RdF w v xs := by exact rdA) : Calls Tryz.prog 120 #[v, .agg #[.int .i64 l, .int .i64 a]] w (Ret (fun _ : Unit => .bool (decide ((⟨l, a⟩ : Pg) ∈ xs))) (fun _ => []) w) := by
  refine enter (args := _) Tryz.func120 rfl Tryz.ntmps120 (by simp) ?_
  repeat' (first | refine E.st ?_ | refine E.cl (h := fun _ w _ => c_idxPg w) (k := ?_)  | refine E.q ?_ | refine E.qs ?_ | refine E.q2 ?_ | refine E.tr ?_ | refine E.ap (fun _ _ => ?_) | refine E.b1 (fun _ _ => ?_) | refine E.b0 (fun _ _ => ?_) | refine E.bsn (fun _ _ => ?_) | refine E.mk (fun _ _ => ?_) | refine E.bx (fun _ => ?_) | refine E.al (fun _ => ?_) | refine E.sb ?_ | refine E.dq ?_ | refine E.ct ?_ | refine E.cf ?_ | refine E.cs (fun hh => ?_) (fun hh => ?_) | refine E.at_block_other rfl ?_)
  refine rb ?_
  rw [decide_eq_decide]
  exact posG_neg
/-- Pools that are right. -/
def PlOk (p : Pl) : Prop := (0 ≤ p.z ∧ p.z ≤ 12 ∧ (p.l.length : Int) ≤ p.z) ∧ (∀ x ∈ p.l, pgok x = true) ∧ p.l.Nodup
instance (p : Pl) : Decidable (PlOk p) := by unfold PlOk; exact inferInstance
theorem nodup_step {α : Type} {xs : List α} {k : Nat} {x : α} (h : (xs.take k).Nodup) (hx : xs[k]? = some x) (hn : x ∉ xs.take k) : (xs.take (k + 1)).Nodup := by
  rw [List.take_add_one, hx]
  simp only [Option.toList_some]
  rw [List.nodup_append]
  exact ⟨h, by simp, fun a ha b hb => by simp only [List.mem_singleton] at hb; subst hb; rintro rfl; exact hn ha⟩
theorem nodup_no {α : Type} {xs : List α} {k : Nat} {x : α} (hx : xs[k]? = some x) (hn : x ∈ xs.take k) : ¬ xs.Nodup := fun h => by
  obtain ⟨i, hi, e⟩ := List.mem_take_iff_getElem.1 hn
  obtain ⟨hk, e2⟩ := List.getElem?_eq_some_iff.1 hx
  have := (List.nodup_iff_pairwise_ne.1 h)
  have := List.pairwise_iff_getElem.1 this i k (by omega) hk (by omega)
  rw [e, e2] at this
  exact this rfl
theorem c_s_PoolOk {z : Int} {A : Option Addr} {n c : Nat} {xs : List Pg} (w : World) (hr : RdF w (.slice A n c) xs := by exact rdA) : Calls Tryz.prog 56 #[.agg #[.int .i64 z, .slice A n c]] w (Ret (fun _ : Unit => .bool (decide (PlOk ⟨z, xs⟩))) (fun _ => []) w) := by
  have m1 := hr.le
  simp only [maxLen] at m1
  refine enter (args := _) Tryz.func56 rfl Tryz.ntmps56 (by simp) ?_
  repeat' (first | refine E.st ?_ | refine E.q ?_ | refine E.qs ?_ | refine E.q2 ?_ | refine E.tr ?_ | refine E.ap (fun _ _ => ?_) | refine E.b1 (fun _ _ => ?_) | refine E.b0 (fun _ _ => ?_) | refine E.bsn (fun _ _ => ?_) | refine E.mk (fun _ _ => ?_) | refine E.bx (fun _ => ?_) | refine E.al (fun _ => ?_) | refine E.sb ?_ | refine E.dq ?_ | refine E.ct ?_ | refine E.cf ?_ | refine E.cs (fun hh => ?_) (fun hh => ?_) | refine E.at_block_other rfl ?_)
  · exact rb (decide_eq_false (fun h => by have := h.1; simp only at this; omega)).symm
  refine lq (fun k : Nat => k ≤ xs.length ∧ (∀ x ∈ xs.take k, pgok x = true) ∧ (xs.take k).Nodup) (fun k => [(3, .pl (.int .i64 (k : Int)))]) (fun _ => []) (fun k => xs.length - k) 0 ⟨Nat.zero_le _, by simp, by simp⟩ (fun k hk0 => ?_)
  obtain ⟨hk1, hk2, hk3⟩ := hk0
  rcases Nat.lt_or_ge k xs.length with hlt | hge
  · obtain ⟨x, hx⟩ := get_lt hlt
    have hpre : RdF w (pre (.slice A n c) k) (xs.take k) := hr.pre (by omega)
    repeat' (first | refine E.st ?_ | refine E.cl (h := fun _ w _ => c_s_PageOk w) (k := ?_) | refine E.cl (h := fun _ w _ => c_l5At w) (k := ?_)  | refine E.q ?_ | refine E.qs ?_ | refine E.q2 ?_ | refine E.tr ?_ | refine E.ap (fun _ _ => ?_) | refine E.b1 (fun _ _ => ?_) | refine E.b0 (fun _ _ => ?_) | refine E.bsn (fun _ _ => ?_) | refine E.mk (fun _ _ => ?_) | refine E.bx (fun _ => ?_) | refine E.al (fun _ => ?_) | refine E.sb ?_ | refine E.dq ?_ | refine E.ct ?_ | refine E.cf ?_ | refine E.cs (fun hh => ?_) (fun hh => ?_) | refine E.at_block_other rfl ?_)
    · refine rb (decide_eq_false (fun h => ?_)).symm
      rcases hh with h1 | h1
      · have := h.2.1 x (mem_of hx)
        rw [show pgok x = false from h1] at this
        cases this
      · exact nodup_no hx (posG_neg.1 h1) h.2.2
    · exact rd (k + 1) ⟨by omega, all_step hk2 hx hh.1, nodup_step hk3 hx (fun h => hh.2 (posG_neg.2 h))⟩
  · repeat' (first | refine E.st ?_ | refine E.q ?_ | refine E.qs ?_ | refine E.q2 ?_ | refine E.tr ?_ | refine E.ap (fun _ _ => ?_) | refine E.b1 (fun _ _ => ?_) | refine E.b0 (fun _ _ => ?_) | refine E.bsn (fun _ _ => ?_) | refine E.mk (fun _ _ => ?_) | refine E.bx (fun _ => ?_) | refine E.al (fun _ => ?_) | refine E.sb ?_ | refine E.dq ?_ | refine E.ct ?_ | refine E.cf ?_ | refine E.cs (fun hh => ?_) (fun hh => ?_) | refine E.at_block_other rfl ?_)
    rw [List.take_of_length_le hge] at hk2 hk3
    exact rb (decide_eq_true (⟨by simp only; omega, hk2, hk3⟩ : PlOk ⟨z, xs⟩)).symm
theorem c_i_PoolOk {z : Int} {A : Option Addr} {n c : Nat} {xs : List Pg} (w : World) (hr : RdF w (.slice A n c) xs := by exact rdA) : Calls Tryz.prog 57 #[.agg #[.int .i64 z, .slice A n c]] w (Ret (fun _ : Unit => .bool (decide (PlOk ⟨z, xs⟩))) (fun _ => []) w) := by
  have m1 := hr.le
  simp only [maxLen] at m1
  refine enter (args := _) Tryz.func57 rfl Tryz.ntmps57 (by simp) ?_
  repeat' (first | refine E.st ?_ | refine E.q ?_ | refine E.qs ?_ | refine E.q2 ?_ | refine E.tr ?_ | refine E.ap (fun _ _ => ?_) | refine E.b1 (fun _ _ => ?_) | refine E.b0 (fun _ _ => ?_) | refine E.bsn (fun _ _ => ?_) | refine E.mk (fun _ _ => ?_) | refine E.bx (fun _ => ?_) | refine E.al (fun _ => ?_) | refine E.sb ?_ | refine E.dq ?_ | refine E.ct ?_ | refine E.cf ?_ | refine E.cs (fun hh => ?_) (fun hh => ?_) | refine E.at_block_other rfl ?_)
  · exact rb (decide_eq_false (fun h => by have := h.1; simp only at this; omega)).symm
  refine lq (fun k : Nat => k ≤ xs.length ∧ (∀ x ∈ xs.take k, pgok x = true) ∧ (xs.take k).Nodup) (fun k => [(24, .pl (.int .i64 (k : Int)))]) (fun _ => []) (fun k => xs.length - k) 0 ⟨Nat.zero_le _, by simp, by simp⟩ (fun k hk0 => ?_)
  obtain ⟨hk1, hk2, hk3⟩ := hk0
  rcases Nat.lt_or_ge k xs.length with hlt | hge
  · obtain ⟨x, hx⟩ := get_lt hlt
    have hpre : RdF w (pre (.slice A n c) k) (xs.take k) := hr.pre (by omega)
    repeat' (first | refine E.st ?_ | refine E.cl (h := fun _ w _ => c_i_PageOk w) (k := ?_) | refine E.cl (h := fun _ w _ => c_hasPg w) (k := ?_)  | refine E.q ?_ | refine E.qs ?_ | refine E.q2 ?_ | refine E.tr ?_ | refine E.ap (fun _ _ => ?_) | refine E.b1 (fun _ _ => ?_) | refine E.b0 (fun _ _ => ?_) | refine E.bsn (fun _ _ => ?_) | refine E.mk (fun _ _ => ?_) | refine E.bx (fun _ => ?_) | refine E.al (fun _ => ?_) | refine E.sb ?_ | refine E.dq ?_ | refine E.ct ?_ | refine E.cf ?_ | refine E.cs (fun hh => ?_) (fun hh => ?_) | refine E.at_block_other rfl ?_)
    · refine rb (decide_eq_false (fun h => ?_)).symm
      rcases hh with h1 | h1
      · have := h.2.1 x (mem_of hx)
        rw [show pgok x = false from h1] at this
        cases this
      · exact nodup_no hx h1 h.2.2
    · exact rd (k + 1) ⟨by omega, all_step hk2 hx hh.1, nodup_step hk3 hx hh.2⟩
  · repeat' (first | refine E.st ?_ | refine E.q ?_ | refine E.qs ?_ | refine E.q2 ?_ | refine E.tr ?_ | refine E.ap (fun _ _ => ?_) | refine E.b1 (fun _ _ => ?_) | refine E.b0 (fun _ _ => ?_) | refine E.bsn (fun _ _ => ?_) | refine E.mk (fun _ _ => ?_) | refine E.bx (fun _ => ?_) | refine E.al (fun _ => ?_) | refine E.sb ?_ | refine E.dq ?_ | refine E.ct ?_ | refine E.cf ?_ | refine E.cs (fun hh => ?_) (fun hh => ?_) | refine E.at_block_other rfl ?_)
    rw [List.take_of_length_le hge] at hk2 hk3
    exact rb (decide_eq_true (⟨by simp only; omega, hk2, hk3⟩ : PlOk ⟨z, xs⟩)).symm
end E
end Go.Proofs.YtpiiapoafmnhhaaGreat
/- Contracts on worlds that are right; the law of WorldOk. -/
namespace Go.Proofs.YtpiiapoafmnhhaaGreat
namespace E
open Go Go.RowKit
set_option linter.unusedSimpArgs false
set_option linter.unusedVariables false
set_option maxHeartbeats 1000000
set_option maxRecDepth 10000
attribute [local irreducible] HC HL HQ HX HO At Y YV Opd Opds KnX Sl Ld Src GV RV Calls Code.wp eptr adr RdF ownF OneX HG LdC
def WOk (d : Wd) : Prop := PsOk d.ps ∧ gok d.ns d.es = true ∧ d.qs.length = d.ps.length ∧ d.ls.length = d.ps.length ∧ ∀ (i : Nat) p q l, d.ps[i]? = some p → d.qs[i]? = some q → d.ls[i]? = some l → PlOk q ∧ q.z = p.z ∧ 0 ≤ l ∧ l ≤ p.q
noncomputable def wok (d : Wd) : Bool := @decide (WOk d) (Classical.propDecidable _)
end E
end Go.Proofs.YtpiiapoafmnhhaaGreat
