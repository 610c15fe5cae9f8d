/- Graphs that are right: plain facts on lists, nodes and edges. -/
import Derived.Test.YtjdagbicjhmeeaaCa
namespace Go.Proofs.Ytjdagbicjhmeeaa
namespace E
set_option linter.unusedVariables false
/-! ### Lists that are looked at one behind the other -/
theorem pw_step {α : Type} {R : α → α → Prop} (tr : ∀ x y z, R x y → R y z → R x z) {xs : List α} {k : Nat} {x : α} (h : (xs.take k).Pairwise R) (hx : xs[k]? = some x) (hp : k = 0 ∨ ∃ y, xs[k - 1]? = some y ∧ R y x) : (xs.take (k + 1)).Pairwise R := by
  rw [List.take_add_one, hx]
  simp only [Option.toList_some]
  rw [List.pairwise_append]
  refine ⟨h, List.pairwise_singleton _ _, fun z hz b hb => ?_⟩
  simp only [List.mem_singleton] at hb
  subst hb
  rcases hp with rfl | ⟨y, hy, hR⟩
  · simp at hz
  · obtain ⟨i, hi⟩ := List.getElem?_of_mem hz
    have hik : i < k := by
      rcases Nat.lt_or_ge i k with h | h
      · exact h
      · rw [List.getElem?_eq_none (by simp; omega)] at hi; cases hi
    rw [List.getElem?_take_of_lt hik] at hi
    rcases Nat.lt_or_ge i (k - 1) with h1 | h1
    · have hl : k - 1 < (xs.take k).length := by
        have := (List.getElem?_eq_some_iff.1 hy).1
        simp; omega
      have hl0 : i < (xs.take k).length := by omega
      have hp := List.pairwise_iff_getElem.1 h i (k - 1) hl0 hl h1
      rw [List.getElem_take, List.getElem_take] at hp
      have e1 : xs[i]'(by simp at hl0; omega) = z := by
        have := List.getElem?_eq_getElem (l := xs) (i := i) (by simp at hl0; omega)
        rw [this] at hi; injection hi
      have e2 : xs[k - 1]'(by simp at hl; omega) = y := by
        have := List.getElem?_eq_getElem (l := xs) (i := k - 1) (by simp at hl; omega)
        rw [this] at hy; injection hy
      rw [e1, e2] at hp
      exact tr _ _ _ hp hR
    · have : i = k - 1 := by omega
      subst this
      rw [hy] at hi
      injection hi with hi
      subst hi
      exact hR
theorem pw_no {α : Type} {R : α → α → Prop} {xs : List α} {k : Nat} {x y : α} (hx : xs[k]? = some x) (hk : 0 < k) (hy : xs[k - 1]? = some y) (hn : ¬ R y x) : ¬ xs.Pairwise R := fun h => by
  obtain ⟨h1, e1⟩ := List.getElem?_eq_some_iff.1 hx
  obtain ⟨h2, e2⟩ := List.getElem?_eq_some_iff.1 hy
  have := List.pairwise_iff_getElem.1 h (k - 1) k h2 h1 (by omega)
  rw [e1, e2] at this
  exact hn this
theorem all_step {α : Type} {p : α → Prop} {xs : List α} {k : Nat} {x : α} (h : ∀ y ∈ xs.take k, p y) (hx : xs[k]? = some x) (hp : p x) : ∀ y ∈ xs.take (k + 1), p y := by
  rw [List.take_add_one, hx]
  intro y hy
  simp only [Option.toList_some, List.mem_append, List.mem_singleton] at hy
  rcases hy with hy | rfl
  · exact h y hy
  · exact hp
theorem mem_of {α : Type} {xs : List α} {k : Nat} {x : α} (hx : xs[k]? = some x) : x ∈ xs := List.mem_of_getElem? hx
theorem count_step {α : Type} {xs : List α} {k : Nat} {x : α} (p : α → Bool) (hx : xs[k]? = some x) : (xs.take (k + 1)).countP p = (xs.take k).countP p + if p x = true then 1 else 0 := by
  rw [List.take_add_one, hx, List.countP_append]
  simp [List.countP_cons]
theorem count_le {α : Type} {xs : List α} {k n : Nat} (p : α → Bool) (h : xs.length ≤ n) : (xs.take k).countP p ≤ n := by
  have := List.countP_le_length (p := p) (l := xs.take k)
  simp at this
  omega
theorem count_lt {α : Type} {xs : List α} (k : Nat) (p : α → Bool) : (xs.take k).countP p ≤ k := by
  have := List.countP_le_length (p := p) (l := xs.take k)
  simp at this
  omega
theorem count_take_le {α : Type} {xs : List α} {k : Nat} (p : α → Bool) : (xs.take k).countP p ≤ xs.countP p := (List.take_sublist k xs).countP_le
def labs : List Int := [0, 1, 2, 3, 4, 5, 6, 7]
theorem mem_labs {a : Int} : a ∈ labs ↔ 0 ≤ a ∧ a ≤ 7 := by simp [labs]; omega
theorem len_counts {α : Type} (f : α → Int) (xs : List α) (h : ∀ x ∈ xs, 0 ≤ f x ∧ f x ≤ 7) (m : Nat) (hm : ∀ a ∈ labs, xs.countP (fun x => decide (f x = a)) ≤ m) : xs.length ≤ 8 * m := by
  have key : xs.length = (labs.map fun a => xs.countP (fun x => decide (f x = a))).sum := by
    clear hm
    induction xs with
    | nil => simp [labs]
    | cons x xs ih =>
      have ih' := ih (fun y hy => h y (List.mem_cons_of_mem _ hy))
      have hx := h x List.mem_cons_self
      simp only [labs, List.map_cons, List.map_nil, List.sum_cons, List.sum_nil, List.length_cons, List.countP_cons] at ih' ⊢
      have : f x = 0 ∨ f x = 1 ∨ f x = 2 ∨ f x = 3 ∨ f x = 4 ∨ f x = 5 ∨ f x = 6 ∨ f x = 7 := by omega
      rcases this with e | e | e | e | e | e | e | e <;> simp only [e] <;> simp <;> omega
  have h0 := hm 0 (by simp [labs]); have h1 := hm 1 (by simp [labs]); have h2 := hm 2 (by simp [labs]); have h3 := hm 3 (by simp [labs])
  have h4 := hm 4 (by simp [labs]); have h5 := hm 5 (by simp [labs]); have h6 := hm 6 (by simp [labs]); have h7 := hm 7 (by simp [labs])
  simp only [labs, List.map_cons, List.map_nil, List.sum_cons, List.sum_nil] at key
  omega

/-! ### Places -/
def pos (ns : List Nd) (n : Nd) : Int := match ns.findIdx? (fun x => decide (x = n)) with
  | some i => i
  | none => -1
theorem pos_some {ns : List Nd} {n : Nd} {k : Nat} (hx : ns[k]? = some n) (h : ∀ y ∈ ns.take k, y ≠ n) : pos ns n = k := by
  obtain ⟨hk, e⟩ := List.getElem?_eq_some_iff.1 hx
  have : ns.findIdx? (fun x => decide (x = n)) = some k := by
    rw [List.findIdx?_eq_some_iff_getElem]
    refine ⟨hk, by simp [e], fun j hj => ?_⟩
    simp only [decide_eq_true_eq]
    refine h _ ?_
    rw [List.mem_take_iff_getElem]
    exact ⟨j, by omega, rfl⟩
  simp [pos, this]
theorem pos_none {ns : List Nd} {n : Nd} (h : n ∉ ns) : pos ns n = -1 := by
  have : ns.findIdx? (fun x => decide (x = n)) = none := by
    rw [List.findIdx?_eq_none_iff]
    intro x hx
    simp only [decide_eq_false_iff_not]
    rintro rfl
    exact h hx
  simp [pos, this]
theorem pos_ok {ns : List Nd} {n : Nd} (h : n ∈ ns) : ∃ k : Nat, pos ns n = k ∧ ns[k]? = some n ∧ ∀ y ∈ ns.take k, y ≠ n := by
  cases hf : ns.findIdx? (fun x => decide (x = n)) with
  | none =>
    rw [List.findIdx?_eq_none_iff] at hf
    have := hf n h
    simp at this
  | some k =>
    have h2 := hf
    rw [List.findIdx?_eq_some_iff_getElem] at hf
    obtain ⟨hk, e, hlt⟩ := hf
    simp only [decide_eq_true_eq] at e
    refine ⟨k, by simp [pos, h2], by rw [List.getElem?_eq_getElem hk, e], fun y hy => ?_⟩
    rw [List.mem_take_iff_getElem] at hy
    obtain ⟨j, hj, rfl⟩ := hy
    have := hlt j (by omega)
    simpa using this
theorem pos_neg {ns : List Nd} {n : Nd} : pos ns n < 0 ↔ n ∉ ns := by
  constructor
  · intro h hn
    obtain ⟨k, e, _⟩ := pos_ok hn
    omega
  · intro h
    rw [pos_none h]
    omega

/-! ### Graphs that are right -/
def ekey (e : Eg) : Int := e.l * 1000000 + cd e.a * 1000 + cd e.b
theorem cd_bd {x : Nd} (h : nok x = true) : 0 ≤ cd x ∧ cd x ≤ 488 := by
  have := nok_iff.1 h
  rw [cd_ok h]
  omega
theorem cd_inj {x y : Nd} (hx : nok x = true) (hy : nok y = true) (h : cd x = cd y) : x = y := by
  have h1 := nok_iff.1 hx
  have h2 := nok_iff.1 hy
  rw [cd_ok hx, cd_ok hy] at h
  cases x; cases y
  simp only [Nd.mk.injEq] at *
  omega
theorem eok_parts {e : Eg} (h : eok e = true) : lok e.l = true ∧ nok e.a = true ∧ nok e.b = true ∧ cd e.a < cd e.b ∧ und e.a.l e.l = true ∧ und e.b.l e.l = true := by
  simp only [eok, Bool.and_eq_true, decide_eq_true_eq] at h
  obtain ⟨⟨⟨⟨⟨a, b⟩, c⟩, d⟩, f⟩, g⟩ := h
  exact ⟨a, b, c, d, f, g⟩
theorem ekey_inj {x y : Eg} (hx : eok x = true) (hy : eok y = true) (h : ekey x = ekey y) : x = y := by
  obtain ⟨a1, a2, a3, _⟩ := eok_parts hx
  obtain ⟨b1, b2, b3, _⟩ := eok_parts hy
  have h1 := cd_bd a2; have h2 := cd_bd a3; have h3 := cd_bd b2; have h4 := cd_bd b3
  have l1 := lok_iff.1 a1; have l2 := lok_iff.1 b1
  unfold ekey at h
  have e1 : x.l = y.l := by omega
  have e2 : cd x.a = cd y.a := by omega
  have e3 : cd x.b = cd y.b := by omega
  have e4 := cd_inj a2 b2 e2
  have e5 := cd_inj a3 b3 e3
  cases x; cases y
  simp_all
def lessE (x y : Eg) : Bool := if x.l ≠ y.l then decide (x.l < y.l) else if x.a ≠ y.a then decide (cd x.a < cd y.a) else decide (cd x.b < cd y.b)
theorem lessE_key {x y : Eg} (hx : eok x = true) (hy : eok y = true) : lessE x y = true ↔ ekey x < ekey y := by
  obtain ⟨a1, a2, a3, _⟩ := eok_parts hx
  obtain ⟨b1, b2, b3, _⟩ := eok_parts hy
  have h1 := cd_bd a2; have h2 := cd_bd a3; have h3 := cd_bd b2; have h4 := cd_bd b3
  have l1 := lok_iff.1 a1; have l2 := lok_iff.1 b1
  unfold lessE ekey
  split
  · simp only [decide_eq_true_eq]; omega
  · split
    · rename_i e1 e2
      have : cd x.a ≠ cd y.a := fun e => e2 (cd_inj a2 b2 e)
      simp only [decide_eq_true_eq]; omega
    · rename_i e1 e2
      have : x.a = y.a := by simpa using e2
      simp only [decide_eq_true_eq, this]; omega
/-- How many there are of each label. -/
def cnts {α : Type} (f : α → Int) (xs : List α) : List Int := labs.map fun a => ((xs.countP (fun x => decide (f x = a)) : Nat) : Int)
theorem cnts_length {α : Type} (f : α → Int) (xs : List α) : (cnts f xs).length = 8 := by simp [cnts, labs]
theorem cnts_get {α : Type} (f : α → Int) (xs : List α) {a : Int} (h : 0 ≤ a ∧ a ≤ 7) : (cnts f xs)[a.toNat]? = some ((xs.countP (fun x => decide (f x = a)) : Nat) : Int) := by
  have : a = 0 ∨ a = 1 ∨ a = 2 ∨ a = 3 ∨ a = 4 ∨ a = 5 ∨ a = 6 ∨ a = 7 := by omega
  rcases this with rfl | rfl | rfl | rfl | rfl | rfl | rfl | rfl <;> rfl
theorem cnts_set {α : Type} (f : α → Int) {xs : List α} {k : Nat} {x : α} (hx : xs[k]? = some x) (h : 0 ≤ f x ∧ f x ≤ 7) : (cnts f (xs.take k)).set (f x).toNat (((xs.take k).countP (fun y => decide (f y = f x)) : Nat) + 1) = cnts f (xs.take (k + 1)) := by
  have h0 : ∀ a : Int, (xs.take (k + 1)).countP (fun y => decide (f y = a)) = (xs.take k).countP (fun y => decide (f y = a)) + if decide (f x = a) = true then 1 else 0 := fun a => count_step _ hx
  unfold cnts
  simp only [h0]
  generalize f x = b at *
  have : b = 0 ∨ b = 1 ∨ b = 2 ∨ b = 3 ∨ b = 4 ∨ b = 5 ∨ b = 6 ∨ b = 7 := by omega
  rcases this with rfl | rfl | rfl | rfl | rfl | rfl | rfl | rfl <;> simp [labs]
def NOk (ns : List Nd) : Prop := (∀ x ∈ ns, nok x = true) ∧ ns.Pairwise (fun x y => cd x < cd y) ∧ ∀ a ∈ labs, ns.countP (fun x => decide (x.l = a)) ≤ 5
def EOk (ns : List Nd) (es : List Eg) : Prop := (∀ e ∈ es, eok e = true ∧ e.a ∈ ns ∧ e.b ∈ ns) ∧ es.Pairwise (fun x y => ekey x < ekey y) ∧ ∀ a ∈ labs, es.countP (fun x => decide (x.l = a)) ≤ 7
instance (ns : List Nd) : Decidable (NOk ns) := by unfold NOk; exact inferInstance
instance (ns : List Nd) (es : List Eg) : Decidable (EOk ns es) := by unfold EOk; exact inferInstance
def gok (ns : List Nd) (es : List Eg) : Bool := decide (NOk ns) && decide (EOk ns es)
theorem gok_iff {ns : List Nd} {es : List Eg} : gok ns es = true ↔ NOk ns ∧ EOk ns es := by simp [gok]
theorem gok_no_n {ns : List Nd} {es : List Eg} (h : ¬ NOk ns) : gok ns es = false := by simp [gok, h]
theorem gok_no_e {ns : List Nd} {es : List Eg} (h : ¬ EOk ns es) : gok ns es = false := by simp [gok, h]
theorem NOk.len {ns : List Nd} (h : NOk ns) : ns.length ≤ 40 := len_counts (·.l) ns (fun x hx => by have := nok_iff.1 (h.1 x hx); omega) 5 h.2.2
theorem EOk.len {ns : List Nd} {es : List Eg} (h : EOk ns es) : es.length ≤ 56 := len_counts (·.l) es (fun x hx => by have := lok_iff.1 (eok_parts (h.1 x hx).1).1; omega) 7 h.2.2
end E
end Go.Proofs.Ytjdagbicjhmeeaa
