/- Contracts on graphs: whether a graph is right, as the program says it. -/
import Derived.Test.YtjdagbicjhmeeaaCb
namespace Go.Proofs.Ytjdagbicjhmeeaa
namespace E
open Go Go.RowKit
set_option linter.unusedSimpArgs false
set_option linter.unusedVariables false
set_option maxHeartbeats 1000000
set_option maxRecDepth 10000
attribute [local irreducible] HC HL HQ HX HO At Y YV Opd Opds KnX Sl Ld Src GV RV Calls Code.wp eptr adr RdF ownF OneX HG LdC
def cmpI (a b : Int) : Int := if a < b then -1 else if b < a then 1 else 0
theorem c_isNaN {a : Int} (w : World) : Calls Try.prog 125 #[.int .i64 a] w (Ret (fun _ : Unit => .bool false) (fun _ => []) w) := by
  refine enter (args := _) Try.func125 rfl Try.ntmps125 (by simp) ?_
  repeat' (first | refine E.st ?_ | refine E.q ?_ | refine E.qs ?_ | refine E.q2 ?_ | refine E.tr ?_ | refine E.ap (fun _ _ => ?_) | refine E.b1 (fun _ _ => ?_) | refine E.b0 (fun _ _ => ?_) | refine E.bsn (fun _ _ => ?_) | refine E.mk (fun _ _ => ?_) | refine E.bx (fun _ => ?_) | refine E.al (fun _ => ?_) | refine E.sb ?_ | refine E.dq ?_ | refine E.ct ?_ | refine E.cf ?_ | refine E.cs (fun hh => ?_) (fun hh => ?_) | refine E.at_block_other rfl ?_)
  refine rb ?_
  simp
theorem c_Compare {a b : Int} (w : World) : Calls Try.prog 99 #[.int .i64 a, .int .i64 b] w (Ret (fun _ : Unit => .int .i64 (cmpI a b)) (fun _ => []) w) := by
  refine enter (args := _) Try.func99 rfl Try.ntmps99 (by simp) ?_
  repeat' (first | refine E.st ?_ | refine E.cl (h := fun _ w _ => c_isNaN w) (k := ?_)  | refine E.q ?_ | refine E.qs ?_ | refine E.q2 ?_ | refine E.tr ?_ | refine E.ap (fun _ _ => ?_) | refine E.b1 (fun _ _ => ?_) | refine E.b0 (fun _ _ => ?_) | refine E.bsn (fun _ _ => ?_) | refine E.mk (fun _ _ => ?_) | refine E.bx (fun _ => ?_) | refine E.al (fun _ => ?_) | refine E.sb ?_ | refine E.dq ?_ | refine E.ct ?_ | refine E.cf ?_ | refine E.cs (fun hh => ?_) (fun hh => ?_) | refine E.at_block_other rfl ?_)
  all_goals (refine ri ?_; simp only [cmpI]; grind)
theorem c_nodeOrder {l n l' n' : Int} (w : World) : Calls Try.prog 72 #[.agg #[.int .i64 l, .int .i64 n], .agg #[.int .i64 l', .int .i64 n']] w (Ret (fun _ : Unit => .int .i64 (cmpI (code ⟨l, n⟩) (code ⟨l', n'⟩))) (fun _ => []) w) := by
  refine enter (args := _) Try.func72 rfl Try.ntmps72 (by simp) ?_
  repeat' (first | refine E.st ?_ | refine E.cl (h := fun _ w _ => c_i_NodeCode w) (k := ?_) | refine E.cl (h := fun _ w _ => c_Compare w) (k := ?_)  | refine E.q ?_ | refine E.qs ?_ | refine E.q2 ?_ | refine E.tr ?_ | refine E.ap (fun _ _ => ?_) | refine E.b1 (fun _ _ => ?_) | refine E.b0 (fun _ _ => ?_) | refine E.bsn (fun _ _ => ?_) | refine E.mk (fun _ _ => ?_) | refine E.bx (fun _ => ?_) | refine E.al (fun _ => ?_) | refine E.sb ?_ | refine E.dq ?_ | refine E.ct ?_ | refine E.cf ?_ | refine E.cs (fun hh => ?_) (fun hh => ?_) | refine E.at_block_other rfl ?_)
  exact ri
def orI : List Int → Int
  | [] => 0
  | x :: xs => if x ≠ 0 then x else orI xs
theorem orI_at {xs : List Int} {k : Nat} {x : Int} (h : ∀ y ∈ xs.take k, y = 0) (hx : xs[k]? = some x) (h0 : x ≠ 0) : orI xs = x := by
  induction xs generalizing k with
  | nil => simp at hx
  | cons y ys ih =>
    cases k with
    | zero =>
      simp only [List.getElem?_cons_zero, Option.some.injEq] at hx
      subst hx
      simp [orI, h0]
    | succ k =>
      have hy := h y (by simp)
      subst hy
      simp only [orI, ne_eq, not_true_eq_false, if_false]
      exact ih (k := k) (fun z hz => h z (by simp [hz])) (by simpa using hx)
theorem orI_none {xs : List Int} (h : ∀ y ∈ xs, y = 0) : orI xs = 0 := by
  induction xs with
  | nil => rfl
  | cons y ys ih =>
    have hy := h y (by simp)
    subst hy
    simp only [orI, ne_eq, not_true_eq_false, if_false]
    exact ih (fun z hz => h z (by simp [hz]))
theorem c_Or {v : Value} {xs : List Int} (w : World) (hr : RdF w v xs := by exact rdA) : Calls Try.prog 131 #[v] w (Ret (fun _ : Unit => .int .i64 (orI xs)) (fun _ => []) w) := by
  have m1 := hr.le
  simp only [maxLen] at m1
  refine enter (args := _) Try.func131 rfl Try.ntmps131 (by simp) ?_
  repeat' (first | refine E.st ?_ | refine E.q ?_ | refine E.qs ?_ | refine E.q2 ?_ | refine E.tr ?_ | refine E.ap (fun _ _ => ?_) | refine E.b1 (fun _ _ => ?_) | refine E.b0 (fun _ _ => ?_) | refine E.bsn (fun _ _ => ?_) | refine E.mk (fun _ _ => ?_) | refine E.bx (fun _ => ?_) | refine E.al (fun _ => ?_) | refine E.sb ?_ | refine E.dq ?_ | refine E.ct ?_ | refine E.cf ?_ | refine E.cs (fun hh => ?_) (fun hh => ?_) | refine E.at_block_other rfl ?_)
  refine lq (fun k : Nat => k ≤ xs.length ∧ ∀ y ∈ xs.take k, y = 0) (fun k => [(8, .pl (.int .i64 (k : Int)))]) (fun _ => []) (fun k => xs.length - k) 0 ⟨Nat.zero_le _, by simp⟩ (fun k hk0 => ?_)
  obtain ⟨hk1, hk2⟩ := hk0
  rcases Nat.lt_or_ge k xs.length with hlt | hge
  · obtain ⟨x, hx⟩ := get_lt hlt
    repeat' (first | refine E.st ?_ | refine E.q ?_ | refine E.qs ?_ | refine E.q2 ?_ | refine E.tr ?_ | refine E.ap (fun _ _ => ?_) | refine E.b1 (fun _ _ => ?_) | refine E.b0 (fun _ _ => ?_) | refine E.bsn (fun _ _ => ?_) | refine E.mk (fun _ _ => ?_) | refine E.bx (fun _ => ?_) | refine E.al (fun _ => ?_) | refine E.sb ?_ | refine E.dq ?_ | refine E.ct ?_ | refine E.cf ?_ | refine E.cs (fun hh => ?_) (fun hh => ?_) | refine E.at_block_other rfl ?_)
    · exact ri (orI_at hk2 hx hh).symm
    · exact rd (k + 1) ⟨by omega, all_step hk2 hx (by omega)⟩
  · repeat' (first | refine E.st ?_ | refine E.q ?_ | refine E.qs ?_ | refine E.q2 ?_ | refine E.tr ?_ | refine E.ap (fun _ _ => ?_) | refine E.b1 (fun _ _ => ?_) | refine E.b0 (fun _ _ => ?_) | refine E.bsn (fun _ _ => ?_) | refine E.mk (fun _ _ => ?_) | refine E.bx (fun _ => ?_) | refine E.al (fun _ => ?_) | refine E.sb ?_ | refine E.dq ?_ | refine E.ct ?_ | refine E.cf ?_ | refine E.cs (fun hh => ?_) (fun hh => ?_) | refine E.at_block_other rfl ?_)
    rw [List.take_of_length_le hge] at hk2
    exact ri (orI_none hk2).symm
/-- Three numbers that are written out. -/
theorem c_edgeOrder {l al an bl bn l' al' an' bl' bn' : Int} (w : World) : Calls Try.prog 105 #[.agg #[.int .i64 l, .int .i64 al, .int .i64 an, .int .i64 bl, .int .i64 bn], .agg #[.int .i64 l', .int .i64 al', .int .i64 an', .int .i64 bl', .int .i64 bn']] w (Ret (fun _ : Unit => .int .i64 (orI [cmpI l l', cmpI (code ⟨al, an⟩) (code ⟨al', an'⟩), cmpI (code ⟨bl, bn⟩) (code ⟨bl', bn'⟩)])) (fun _ => []) w) := by
  refine enter (args := _) Try.func105 rfl Try.ntmps105 (by simp) ?_
  repeat' (first | refine E.st ?_ | refine E.dx [0, 1, 2, 3, 5, 6, 7, 8, 10, 11, 12, 13, 4, 9, 14, 15, 16, 17] ?_ | refine E.cl (h := fun _ w _ => c_Compare w) (k := ?_) | refine E.cl (h := fun _ w _ => c_nodeOrder w) (k := ?_) | refine E.cl (h := fun _ w _ => c_Or w) (k := ?_)  | refine E.q ?_ | refine E.qs ?_ | refine E.q2 ?_ | refine E.tr ?_ | refine E.ap (fun _ _ => ?_) | refine E.b1 (fun _ _ => ?_) | refine E.b0 (fun _ _ => ?_) | refine E.bsn (fun _ _ => ?_) | refine E.mk (fun _ _ => ?_) | refine E.bx (fun _ => ?_) | refine E.al (fun _ => ?_) | refine E.sb ?_ | refine E.dq ?_ | refine E.ct ?_ | refine E.cf ?_ | refine E.cs (fun hh => ?_) (fun hh => ?_) | refine E.at_block_other rfl ?_)
  exact ri
theorem cmpI_lt {a b : Int} : cmpI a b < 0 ↔ a < b := by unfold cmpI; split <;> (try split) <;> omega
theorem cmpI_eq {a b : Int} : cmpI a b = 0 ↔ a = b := by unfold cmpI; split <;> (try split) <;> omega
theorem wrap_u64_of {z : Int} (h : 0 ≤ z ∧ z ≤ 18446744073709551615) : IntKind.u64.wrap z = z := IntWalk.u64_in _ h
theorem shr1 (n : Nat) : (n : Int).fdiv (2 ^ (min (Int.toNat 1) (IntKind.bits .u64))) = ((n / 2 : Nat) : Int) := by
  have : (2 : Int) ^ (min (Int.toNat 1) (IntKind.bits .u64)) = ((2 : Nat) : Int) := by decide
  rw [this, Int.fdiv_eq_ediv_of_nonneg _ (by omega)]
  rfl
/-- Among nodes in order: the place of the first that is not ahead of the given one, and whether that is it. -/
theorem c_bsN {v : Value} {ns : List Nd} {l n : Int} (m : Nat) (w : World) (hm : m ≤ ns.length) (h1 : ∀ (i : Nat) x, ns[i]? = some x → i < m → code x < code ⟨l, n⟩) (h2 : ∀ (i : Nat) x, ns[i]? = some x → m ≤ i → code ⟨l, n⟩ ≤ code x) (hb : ns.length ≤ 1048576 := by omega) (hr : RdF w v ns := by exact rdA) :
    Calls Try.prog 107 #[v, .agg #[.int .i64 l, .int .i64 n], .func (.func 72) #[] #[]] w (Ret (fun _ : Unit => .tuple #[.int .i64 (m : Int), .bool (match ns[m]? with | some x => decide (code x = code ⟨l, n⟩) | none => false)]) (fun _ => []) w) := by
  have m1 := hr.le
  simp only [maxLen] at m1
  refine enter (args := _) Try.func107 rfl Try.ntmps107 (by simp) ?_
  repeat' (first | refine E.st ?_ | refine E.q ?_ | refine E.qs ?_ | refine E.q2 ?_ | refine E.tr ?_ | refine E.ap (fun _ _ => ?_) | refine E.b1 (fun _ _ => ?_) | refine E.b0 (fun _ _ => ?_) | refine E.bsn (fun _ _ => ?_) | refine E.mk (fun _ _ => ?_) | refine E.bx (fun _ => ?_) | refine E.al (fun _ => ?_) | refine E.sb ?_ | refine E.dq ?_ | refine E.ct ?_ | refine E.cf ?_ | refine E.cs (fun hh => ?_) (fun hh => ?_) | refine E.at_block_other rfl ?_)
  refine lq (fun p : Nat × Nat => p.1 ≤ m ∧ m ≤ p.2 ∧ p.2 ≤ ns.length) (fun p => [(9, .pl (.int .i64 (p.1 : Int))), (10, .pl (.int .i64 (p.2 : Int)))]) (fun _ => []) (fun p => p.2 - p.1) (0, ns.length) ⟨Nat.zero_le _, hm, Nat.le_refl _⟩ (fun p hp => ?_)
  obtain ⟨lo, hi⟩ := p
  obtain ⟨hlo, hhi, hlen⟩ := hp
  dsimp only at hlo hhi hlen ⊢
  rcases Nat.lt_or_ge lo hi with hlt | hge
  · have e1 : IntKind.u64.wrap ((lo : Int) + hi) = ((lo + hi : Nat) : Int) := wrap_u64_of (by omega)
    have e2 : ((lo + hi : Nat) : Int).fdiv (2 ^ (min (Int.toNat 1) (IntKind.bits .u64))) = (((lo + hi) / 2 : Nat) : Int) := shr1 _
    have e3 : IntKind.i64.wrap (((lo + hi) / 2 : Nat) : Int) = (((lo + hi) / 2 : Nat) : Int) := wrap_i64_of (by omega)
    obtain ⟨x, hx⟩ := get_lt (xs := ns) (k := (lo + hi) / 2) (by omega)
    repeat' (first | refine E.st ?_ | refine E.qy (hy := E.y_eqI E.a_conv (by assumption)) (hr := ?_) | refine E.qy (hy := E.y_eqI E.a_shr (by assumption)) (hr := ?_) | refine E.clt (h := fun _ w _ => c_nodeOrder w) (k := ?_) | refine E.q ?_ | refine E.qs ?_ | refine E.q2 ?_ | refine E.tr ?_ | refine E.ap (fun _ _ => ?_) | refine E.b1 (fun _ _ => ?_) | refine E.b0 (fun _ _ => ?_) | refine E.bsn (fun _ _ => ?_) | refine E.mk (fun _ _ => ?_) | refine E.bx (fun _ => ?_) | refine E.al (fun _ => ?_) | refine E.sb ?_ | refine E.dq ?_ | refine E.ct ?_ | refine E.cf ?_ | refine E.cs (fun hh => ?_) (fun hh => ?_) | refine E.at_block_other rfl ?_)
    · have this : code x < code ⟨l, n⟩ := cmpI_lt.1 hh
      have hk : (lo + hi) / 2 < m := by
        rcases Nat.lt_or_ge ((lo + hi) / 2) m with h | h
        · exact h
        · have := h2 _ x hx h
          omega
      exact rd ((lo + hi) / 2 + 1, hi) ⟨by dsimp only; omega, hhi, hlen⟩
    · have hk : m ≤ (lo + hi) / 2 := by
        rcases Nat.lt_or_ge ((lo + hi) / 2) m with h | h
        · have := h1 _ x hx h
          exact absurd (cmpI_lt.2 this) hh
        · exact h
      exact rd (lo, (lo + hi) / 2) ⟨hlo, hk, by dsimp only; omega⟩
  · have : lo = m := by omega
    subst this
    rcases Nat.lt_or_ge lo ns.length with hlt | hge'
    · obtain ⟨x, hx⟩ := get_lt hlt
      repeat' (first | refine E.st ?_ | refine E.clt (h := fun _ w _ => c_nodeOrder w) (k := ?_) | refine E.q ?_ | refine E.qs ?_ | refine E.q2 ?_ | refine E.tr ?_ | refine E.ap (fun _ _ => ?_) | refine E.b1 (fun _ _ => ?_) | refine E.b0 (fun _ _ => ?_) | refine E.bsn (fun _ _ => ?_) | refine E.mk (fun _ _ => ?_) | refine E.bx (fun _ => ?_) | refine E.al (fun _ => ?_) | refine E.sb ?_ | refine E.dq ?_ | refine E.ct ?_ | refine E.cf ?_ | refine E.cs (fun hh => ?_) (fun hh => ?_) | refine E.at_block_other rfl ?_)
      refine rn () (hv := ?_)
      have hlt' : (lo : Int) < ns.length := by omega
      simp [hx, hlt', cmpI_eq]
    · have hx : decide ((lo : Int) < ns.length) = true → ns[lo]? = some ⟨0, 0⟩ := fun h => by simp at h; omega
      repeat' (first | refine E.st ?_ | refine E.clt (h := fun _ w _ => c_nodeOrder w) (k := ?_) | refine E.q ?_ | refine E.qs ?_ | refine E.q2 ?_ | refine E.tr ?_ | refine E.ap (fun _ _ => ?_) | refine E.b1 (fun _ _ => ?_) | refine E.b0 (fun _ _ => ?_) | refine E.bsn (fun _ _ => ?_) | refine E.mk (fun _ _ => ?_) | refine E.bx (fun _ => ?_) | refine E.al (fun _ => ?_) | refine E.sb ?_ | refine E.dq ?_ | refine E.ct ?_ | refine E.cf ?_ | refine E.cs (fun hh => ?_) (fun hh => ?_) | refine E.at_block_other rfl ?_)
      refine rn () (hv := ?_)
      have hlt' : ¬ (lo : Int) < ns.length := by omega
      simp [List.getElem?_eq_none hge', hlt']
end E
end Go.Proofs.Ytjdagbicjhmeeaa
