/- Contracts on people, pages and pools that are right; and on worlds. -/
import Derived.Test.YtjdagbicjhmeeaaCd
import Derived.Test.YtjdagbicjhmeeaaDc
namespace Go.Proofs.Ytjdagbicjhmeeaa
namespace E
open Go Go.RowKit
set_option linter.unusedSimpArgs false
set_option linter.unusedVariables false
set_option maxHeartbeats 1000000
set_option maxRecDepth 10000
attribute [local irreducible] HC HL HQ HX HO At Y YV Opd Opds KnX Sl Ld Src GV RV Calls Code.wp eptr adr RdF ownF OneX HG LdC
def posG {α : Type} [DecidableEq α] (ns : List α) (n : α) : Int := match ns.findIdx? (fun x => decide (x = n)) with
  | some i => i
  | none => -1
theorem posG_some {α : Type} [DecidableEq α] {ns : List α} {n : α} {k : Nat} (hx : ns[k]? = some n) (h : ∀ y ∈ ns.take k, y ≠ n) : posG ns n = k := by
  obtain ⟨hk, e⟩ := List.getElem?_eq_some_iff.1 hx
  have : ns.findIdx? (fun x => decide (x = n)) = some k := by
    rw [List.findIdx?_eq_some_iff_getElem]
    refine ⟨hk, by simp [e], fun j hj => ?_⟩
    simp only [decide_eq_true_eq]
    refine h _ ?_
    rw [List.mem_take_iff_getElem]
    exact ⟨j, by omega, rfl⟩
  simp [posG, this]
theorem posG_none {α : Type} [DecidableEq α] {ns : List α} {n : α} (h : n ∉ ns) : posG ns n = -1 := by
  have : ns.findIdx? (fun x => decide (x = n)) = none := by
    rw [List.findIdx?_eq_none_iff]
    intro x hx
    simp only [decide_eq_false_iff_not]
    rintro rfl
    exact h hx
  simp [posG, this]
theorem posG_neg {α : Type} [DecidableEq α] {ns : List α} {n : α} : 0 ≤ posG ns n ↔ n ∈ ns := by
  constructor
  · intro h
    refine Decidable.byContradiction (fun hn => ?_)
    rw [posG_none hn] at h
    omega
  · intro h
    cases hf : ns.findIdx? (fun x => decide (x = n)) with
    | none =>
      rw [List.findIdx?_eq_none_iff] at hf
      have := hf n h
      simp at this
    | some k => simp [posG, hf]
def pok (x : Pe) : Bool := lok x.c && (decide (0 ≤ x.z) && decide (x.z ≤ 12)) && (decide (0 ≤ x.q) && decide (x.q ≤ 100))
theorem c_s_PersonOk {c z q : Int} (w : World) : Calls Try.prog 126 #[.agg #[.int .i64 c, .int .i64 z, .int .i64 q]] w (Ret (fun _ : Unit => .bool (pok ⟨c, z, q⟩)) (fun _ => []) w) := by
  refine enter (args := _) Try.func126 rfl Try.ntmps126 (by simp) ?_
  repeat' (first | refine E.st ?_ | refine E.cl (h := fun _ w _ => c_s_LabelOk w) (k := ?_)  | refine E.q ?_ | refine E.qs ?_ | refine E.q2 ?_ | refine E.tr ?_ | refine E.ap (fun _ _ => ?_) | refine E.b1 (fun _ _ => ?_) | refine E.b0 (fun _ _ => ?_) | refine E.bsn (fun _ _ => ?_) | refine E.mk (fun _ _ => ?_) | refine E.bx (fun _ => ?_) | refine E.al (fun _ => ?_) | refine E.sb ?_ | refine E.dq ?_ | refine E.ct ?_ | refine E.cf ?_ | refine E.cs (fun hh => ?_) (fun hh => ?_) | refine E.at_block_other rfl ?_)
  refine rb ?_
  simp [pok, Bool.and_assoc]
def PsOk (ps : List Pe) : Prop := (∀ p ∈ ps, pok p = true) ∧ ps.length ≤ 4
instance (ps : List Pe) : Decidable (PsOk ps) := by unfold PsOk; exact inferInstance
theorem c_l7People {v : Value} {ps : List Pe} (w : World) (hr : RdF w v ps := by exact rdA) : Calls Try.prog 101 #[v] w (Ret (fun _ : Unit => .bool (decide (PsOk ps))) (fun _ => []) w) := by
  have m1 := hr.le
  simp only [maxLen] at m1
  refine enter (args := _) Try.func101 rfl Try.ntmps101 (by simp) ?_
  repeat' (first | refine E.st ?_ | refine E.q ?_ | refine E.qs ?_ | refine E.q2 ?_ | refine E.tr ?_ | refine E.ap (fun _ _ => ?_) | refine E.b1 (fun _ _ => ?_) | refine E.b0 (fun _ _ => ?_) | refine E.bsn (fun _ _ => ?_) | refine E.mk (fun _ _ => ?_) | refine E.bx (fun _ => ?_) | refine E.al (fun _ => ?_) | refine E.sb ?_ | refine E.dq ?_ | refine E.ct ?_ | refine E.cf ?_ | refine E.cs (fun hh => ?_) (fun hh => ?_) | refine E.at_block_other rfl ?_)
  refine lq (fun k : Nat => k ≤ ps.length ∧ ∀ p ∈ ps.take k, pok p = true) (fun k => [(3, .pl (.int .i64 (k : Int)))]) (fun _ => []) (fun k => ps.length - k) 0 ⟨Nat.zero_le _, by simp⟩ (fun k hk => ?_)
  obtain ⟨hk1, hk2⟩ := hk
  rcases Nat.lt_or_ge k ps.length with hlt | hge
  · obtain ⟨x, hx⟩ := get_lt hlt
    repeat' (first | refine E.st ?_ | refine E.cl (h := fun _ w _ => c_s_PersonOk w) (k := ?_)  | refine E.q ?_ | refine E.qs ?_ | refine E.q2 ?_ | refine E.tr ?_ | refine E.ap (fun _ _ => ?_) | refine E.b1 (fun _ _ => ?_) | refine E.b0 (fun _ _ => ?_) | refine E.bsn (fun _ _ => ?_) | refine E.mk (fun _ _ => ?_) | refine E.bx (fun _ => ?_) | refine E.al (fun _ => ?_) | refine E.sb ?_ | refine E.dq ?_ | refine E.ct ?_ | refine E.cf ?_ | refine E.cs (fun hh => ?_) (fun hh => ?_) | refine E.at_block_other rfl ?_)
    · exact rb (decide_eq_false (fun h => by have := h.1 x (mem_of hx); rw [show pok x = false from hh] at this; cases this)).symm
    · exact rd (k + 1) ⟨by omega, all_step hk2 hx hh⟩
  · repeat' (first | refine E.st ?_ | refine E.q ?_ | refine E.qs ?_ | refine E.q2 ?_ | refine E.tr ?_ | refine E.ap (fun _ _ => ?_) | refine E.b1 (fun _ _ => ?_) | refine E.b0 (fun _ _ => ?_) | refine E.bsn (fun _ _ => ?_) | refine E.mk (fun _ _ => ?_) | refine E.bx (fun _ => ?_) | refine E.al (fun _ => ?_) | refine E.sb ?_ | refine E.dq ?_ | refine E.ct ?_ | refine E.cf ?_ | refine E.cs (fun hh => ?_) (fun hh => ?_) | refine E.at_block_other rfl ?_)
    rw [List.take_of_length_le hge] at hk2
    refine rb ?_
    rw [decide_eq_decide]
    constructor
    · intro h
      exact ⟨hk2, by omega⟩
    · intro h
      have := h.2
      omega
def pgok (x : Pg) : Bool := lok x.l && (decide (0 ≤ x.a) && decide (x.a < 1000))
theorem pg_ne {x : Pg} {l n : Int} : ¬ [x.l, x.a] = [l, n] ↔ x ≠ ⟨l, n⟩ := by
  cases x; simp
theorem pg_ne' {x : Pg} {l n : Int} : ¬ [l, n] = [x.l, x.a] ↔ x ≠ ⟨l, n⟩ := by
  cases x; simp; grind
theorem c_l5At {v : Value} {xs : List Pg} {l a : Int} (w : World) (hr : RdF w v xs := by exact rdA) : Calls Try.prog 154 #[v, .agg #[.int .i64 l, .int .i64 a]] w (Ret (fun _ : Unit => .int .i64 (posG xs ⟨l, a⟩)) (fun _ => []) w) := by
  have m1 := hr.le
  simp only [maxLen] at m1
  refine enter (args := _) Try.func154 rfl Try.ntmps154 (by simp) ?_
  repeat' (first | refine E.st ?_ | refine E.q ?_ | refine E.qs ?_ | refine E.q2 ?_ | refine E.tr ?_ | refine E.ap (fun _ _ => ?_) | refine E.b1 (fun _ _ => ?_) | refine E.b0 (fun _ _ => ?_) | refine E.bsn (fun _ _ => ?_) | refine E.mk (fun _ _ => ?_) | refine E.bx (fun _ => ?_) | refine E.al (fun _ => ?_) | refine E.sb ?_ | refine E.dq ?_ | refine E.ct ?_ | refine E.cf ?_ | refine E.cs (fun hh => ?_) (fun hh => ?_) | refine E.at_block_other rfl ?_)
  refine lq (fun k : Nat => k ≤ xs.length ∧ ∀ y ∈ xs.take k, y ≠ ⟨l, a⟩) (fun k => [(5, .pl (.int .i64 (k : Int)))]) (fun _ => []) (fun k => xs.length - k) 0 ⟨Nat.zero_le _, by simp⟩ (fun k hk0 => ?_)
  obtain ⟨hk1, hk2⟩ := hk0
  rcases Nat.lt_or_ge k xs.length with hlt | hge
  · obtain ⟨x, hx⟩ := get_lt hlt
    repeat' (first | refine E.st ?_ | refine E.q ?_ | refine E.qs ?_ | refine E.q2 ?_ | refine E.tr ?_ | refine E.ap (fun _ _ => ?_) | refine E.b1 (fun _ _ => ?_) | refine E.b0 (fun _ _ => ?_) | refine E.bsn (fun _ _ => ?_) | refine E.mk (fun _ _ => ?_) | refine E.bx (fun _ => ?_) | refine E.al (fun _ => ?_) | refine E.sb ?_ | refine E.dq ?_ | refine E.ct ?_ | refine E.cf ?_ | refine E.cs (fun hh => ?_) (fun hh => ?_) | refine E.at_block_other rfl ?_)
    · refine ri ?_
      have : x = ⟨l, a⟩ := Decidable.not_not.1 (fun h => pg_ne.2 h hh)
      rw [posG_some (by rw [hx, this]) hk2]
    · exact rd (k + 1) ⟨by omega, all_step hk2 hx (pg_ne.1 hh)⟩
  · repeat' (first | refine E.st ?_ | refine E.q ?_ | refine E.qs ?_ | refine E.q2 ?_ | refine E.tr ?_ | refine E.ap (fun _ _ => ?_) | refine E.b1 (fun _ _ => ?_) | refine E.b0 (fun _ _ => ?_) | refine E.bsn (fun _ _ => ?_) | refine E.mk (fun _ _ => ?_) | refine E.bx (fun _ => ?_) | refine E.al (fun _ => ?_) | refine E.sb ?_ | refine E.dq ?_ | refine E.ct ?_ | refine E.cf ?_ | refine E.cs (fun hh => ?_) (fun hh => ?_) | refine E.at_block_other rfl ?_)
    refine ri ?_
    rw [List.take_of_length_le hge] at hk2
    rw [posG_none (fun h => hk2 _ h rfl)]
/-- Pools that are right. -/
def PlOk (p : Pl) : Prop := (0 ≤ p.z ∧ p.z ≤ 12 ∧ (p.l.length : Int) ≤ p.z) ∧ (∀ x ∈ p.l, pgok x = true) ∧ p.l.Nodup
instance (p : Pl) : Decidable (PlOk p) := by unfold PlOk; exact inferInstance
theorem nodup_step {α : Type} {xs : List α} {k : Nat} {x : α} (h : (xs.take k).Nodup) (hx : xs[k]? = some x) (hn : x ∉ xs.take k) : (xs.take (k + 1)).Nodup := by
  rw [List.take_add_one, hx]
  simp only [Option.toList_some]
  rw [List.nodup_append]
  exact ⟨h, by simp, fun a ha b hb => by simp only [List.mem_singleton] at hb; subst hb; rintro rfl; exact hn ha⟩
theorem nodup_no {α : Type} {xs : List α} {k : Nat} {x : α} (hx : xs[k]? = some x) (hn : x ∈ xs.take k) : ¬ xs.Nodup := fun h => by
  obtain ⟨i, hi, e⟩ := List.mem_take_iff_getElem.1 hn
  obtain ⟨hk, e2⟩ := List.getElem?_eq_some_iff.1 hx
  have := (List.nodup_iff_pairwise_ne.1 h)
  have := List.pairwise_iff_getElem.1 this i k (by omega) hk (by omega)
  rw [e, e2] at this
  exact this rfl
end E
end Go.Proofs.Ytjdagbicjhmeeaa
