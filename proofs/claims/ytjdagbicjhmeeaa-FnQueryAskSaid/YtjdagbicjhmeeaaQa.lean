/- Graphs: what is done to them, and what is seen of them (plain). -/
import Derived.Test.YtjdagbicjhmeeaaCf
namespace Go.Proofs.Ytjdagbicjhmeeaa
namespace E
open Go
set_option linter.unusedVariables false
/-! ### Labels under labels -/
theorem und_refl {a : Int} (h : lok a = true) : und a a = true := by
  have hh : ∀ a ∈ labs, und a a = true := by decide +kernel
  exact hh a (mem_labs.2 (lok_iff.1 h))
theorem und_trans {a b c : Int} (ha : lok a = true) (hb : lok b = true) (hc : lok c = true) (h1 : und a b = true) (h2 : und b c = true) : und a c = true := by
  have hh : ∀ a ∈ labs, ∀ b ∈ labs, ∀ c ∈ labs, und a b = true → und b c = true → und a c = true := by decide +kernel
  exact hh a (mem_labs.2 (lok_iff.1 ha)) b (mem_labs.2 (lok_iff.1 hb)) c (mem_labs.2 (lok_iff.1 hc)) h1 h2
theorem lun_iff {a b : Int} : lun a b = true ↔ lok a = true ∧ lok b = true ∧ und a b = true := by simp [lun, and_assoc]
theorem lun_refl {a : Int} (h : lok a = true) : lun a a = true := lun_iff.2 ⟨h, h, und_refl h⟩
theorem lun_trans {a b c : Int} (h1 : lun a b = true) (h2 : lun b c = true) : lun a c = true := by
  obtain ⟨a1, a2, a3⟩ := lun_iff.1 h1
  obtain ⟨b1, b2, b3⟩ := lun_iff.1 h2
  exact lun_iff.2 ⟨a1, b2, und_trans a1 a2 b2 a3 b3⟩
theorem lun_top {a : Int} (h : lok a = true) : lun a 7 = true := by
  have hh : ∀ a ∈ labs, lun a 7 = true := by decide +kernel
  exact hh a (mem_labs.2 (lok_iff.1 h))

/-! ### Graphs -/
structure Gr where
  ns : List Nd
  es : List Eg
  deriving DecidableEq
def Gr.ok (g : Gr) : Prop := NOk g.ns ∧ EOk g.ns g.es
instance (g : Gr) : Decidable g.ok := by unfold Gr.ok; exact inferInstance
theorem Gr.ok_iff {g : Gr} : g.ok ↔ gok g.ns g.es = true := gok_iff.symm
theorem nok_lok {x : Nd} (h : nok x = true) : lok x.l = true := by have := nok_iff.1 h; exact lok_iff.2 ⟨this.1, this.2.1⟩
def insN (ns : List Nd) (n : Nd) : List Nd := ns.filter (fun x => decide (cd x < cd n)) ++ n :: ns.filter (fun x => !decide (cd x < cd n))
def insE (es : List Eg) (e : Eg) : List Eg := es.filter (fun x => decide (ekey x < ekey e)) ++ e :: es.filter (fun x => !decide (ekey x < ekey e))
/-- Where a list splits at a place by a test, the test's filters are its parts. -/
theorem filter_split {α : Type} (p : α → Bool) : ∀ (xs : List α) (m : Nat), m ≤ xs.length → (∀ (i : Nat) x, xs[i]? = some x → i < m → p x = true) → (∀ (i : Nat) x, xs[i]? = some x → m ≤ i → p x = false) → xs.filter p = xs.take m ∧ xs.filter (fun x => !p x) = xs.drop m
  | [], m, hm, _, _ => by simp
  | x :: xs, 0, hm, h1, h2 => by
    have h3 : ∀ y ∈ x :: xs, p y = false := fun y hy => by
      obtain ⟨i, hi⟩ := List.getElem?_of_mem hy
      exact h2 i y hi (Nat.zero_le _)
    constructor
    · rw [List.take_zero, List.filter_eq_nil_iff]
      intro y hy
      simp [h3 y hy]
    · rw [List.drop_zero, List.filter_eq_self]
      intro y hy
      simp [h3 y hy]
  | x :: xs, m + 1, hm, h1, h2 => by
    have hx := h1 0 x rfl (by omega)
    obtain ⟨a, b⟩ := filter_split p xs m (by simp at hm; omega) (fun i y hy hi => h1 (i + 1) y (by simpa using hy) (by omega)) (fun i y hy hi => h2 (i + 1) y (by simpa using hy) (by omega))
    simp [hx, a, b]
def endsC (g : Gr) (o : Opn) : Int :=
  if o.k = 1 ∧ o.n ∈ g.ns ∨ o.k = 2 ∧ o.e ∈ g.es then 2
  else if o.k = 4 ∧ o.n ∉ g.ns ∨ o.k = 3 ∧ o.e ∉ g.es ∨ o.k = 2 ∧ ¬ (o.e.a ∈ g.ns ∧ o.e.b ∈ g.ns) then 3
  else if o.k = 1 ∧ 5 ≤ nlab g.ns o.n.l ∨ o.k = 2 ∧ 7 ≤ elbC g.es o.e.l then 4 else 0
/-- What an op makes of a graph, if nothing stands against it. -/
def turnG (g : Gr) (o : Opn) : Gr :=
  if o.k = 1 then ⟨insN g.ns o.n, g.es⟩
  else if o.k = 2 then ⟨g.ns, insE g.es o.e⟩
  else if o.k = 3 then ⟨g.ns, g.es.filter (fun e => !decide (e = o.e))⟩
  else ⟨g.ns.filter (fun x => !decide (x = o.n)), g.es.filter (fun e => !decide (e.a = o.n) && !decide (e.b = o.n))⟩
/-- What is done to a right graph: the graph, and how it ends. -/
def doG (g : Gr) (o : Opn) : Gr × Int :=
  if olab o < 0 then (g, 1) else if endsC g o ≠ 0 then (g, endsC g o) else (turnG g o, 0)
theorem olab_cases {o : Opn} (h : 0 ≤ olab o) : ((o.k = 1 ∨ o.k = 4) ∧ nok o.n = true ∧ olab o = o.n.l) ∨ ((o.k = 2 ∨ o.k = 3) ∧ eok o.e = true ∧ olab o = o.e.l) := by
  unfold olab at h ⊢
  by_cases h1 : o.k = 1 ∨ o.k = 4
  · rw [if_pos h1] at h ⊢
    by_cases h2 : (nok o.n && decide ([o.e.l, o.e.a.l, o.e.a.n, o.e.b.l, o.e.b.n] = [0, 0, 0, 0, 0])) = true
    · rw [if_pos h2]
      simp only [Bool.and_eq_true] at h2
      exact Or.inl ⟨h1, h2.1, rfl⟩
    · rw [if_neg h2] at h; omega
  · rw [if_neg h1] at h ⊢
    by_cases h2 : o.k = 2 ∨ o.k = 3
    · rw [if_pos h2] at h ⊢
      by_cases h3 : (eok o.e && decide ([o.n.l, o.n.n] = [0, 0])) = true
      · rw [if_pos h3]
        simp only [Bool.and_eq_true] at h3
        exact Or.inr ⟨h2, h3.1, rfl⟩
      · rw [if_neg h3] at h; omega
    · rw [if_neg h2] at h; omega
theorem olab_lok {o : Opn} (h : 0 ≤ olab o) : lok (olab o) = true := by
  rcases olab_cases h with ⟨_, h1, e⟩ | ⟨_, h1, e⟩
  · rw [e]; exact nok_lok h1
  · rw [e]; exact (eok_parts h1).1
theorem mem_insN {ns : List Nd} {n x : Nd} : x ∈ insN ns n ↔ x = n ∨ x ∈ ns := by
  simp only [insN, List.mem_append, List.mem_cons, List.mem_filter, Bool.not_eq_true', decide_eq_true_eq, decide_eq_false_iff_not]
  by_cases h : cd x < cd n <;> simp [h] <;> grind
theorem mem_insE {es : List Eg} {e x : Eg} : x ∈ insE es e ↔ x = e ∨ x ∈ es := by
  simp only [insE, List.mem_append, List.mem_cons, List.mem_filter, Bool.not_eq_true', decide_eq_true_eq, decide_eq_false_iff_not]
  by_cases h : ekey x < ekey e <;> simp [h] <;> grind
theorem sorted_ins {α : Type} (f : α → Int) {xs : List α} {x : α} (h : xs.Pairwise (fun a b => f a < f b)) (hx : ∀ y ∈ xs, f y ≠ f x) : (xs.filter (fun y => decide (f y < f x)) ++ x :: xs.filter (fun y => !decide (f y < f x))).Pairwise (fun a b => f a < f b) := by
  rw [List.pairwise_append, List.pairwise_cons]
  refine ⟨h.filter _, ⟨fun y hy => ?_, h.filter _⟩, fun y hy z hz => ?_⟩
  · simp only [List.mem_filter, Bool.not_eq_true', decide_eq_false_iff_not] at hy
    have := hx y hy.1
    omega
  · simp only [List.mem_filter, List.mem_cons, Bool.not_eq_true', decide_eq_true_eq, decide_eq_false_iff_not] at hy hz
    rcases hz with rfl | hz
    · exact hy.2
    · omega
theorem count_ins {α : Type} (p q : α → Bool) (xs : List α) (x : α) : (xs.filter q ++ x :: xs.filter (fun y => !q y)).countP p = xs.countP p + if p x = true then 1 else 0 := by
  induction xs with
  | nil => simp [List.countP_cons]
  | cons y ys ih =>
    by_cases h : q y = true
    · simp only [List.filter_cons, h, if_true, Bool.not_true, Bool.false_eq_true, if_false, List.cons_append, List.countP_cons]
      rw [ih]
      omega
    · have h' : q y = false := by simpa using h
      simp only [List.filter_cons, h', Bool.not_false, if_true, Bool.false_eq_true, if_false, List.countP_append, List.countP_cons] at ih ⊢
      omega
theorem NOk.insN {ns : List Nd} {n : Nd} (h : NOk ns) (hn : nok n = true) (hm : n ∉ ns) (hc : nlab ns n.l < 5) : NOk (insN ns n) := by
  refine ⟨fun x hx => ?_, sorted_ins cd h.2.1 (fun y hy e => ?_), fun a ha => ?_⟩
  · rcases mem_insN.1 hx with rfl | hx
    · exact hn
    · exact h.1 x hx
  · exact hm (cd_inj (h.1 y hy) hn e ▸ hy)
  · have h1 := count_ins (fun x : Nd => decide (x.l = a)) (fun y => decide (cd y < cd n)) ns n
    have h2 := h.2.2 a ha
    unfold E.insN
    rw [h1]
    by_cases e : n.l = a
    · subst e
      simp only [nlab] at hc
      simp only [decide_true, if_true]
      omega
    · simp only [e, decide_false, Bool.false_eq_true, if_false]
      omega
theorem EOk.insE {ns : List Nd} {es : List Eg} {e : Eg} (h : EOk ns es) (he : eok e = true) (ha : e.a ∈ ns) (hb : e.b ∈ ns) (hm : e ∉ es) (hc : elbC es e.l < 7) : EOk ns (insE es e) := by
  refine ⟨fun x hx => ?_, sorted_ins ekey h.2.1 (fun y hy e' => ?_), fun a ha' => ?_⟩
  · rcases mem_insE.1 hx with rfl | hx
    · exact ⟨he, ha, hb⟩
    · exact h.1 x hx
  · exact hm (ekey_inj (h.1 y hy).1 he e' ▸ hy)
  · have h1 := count_ins (fun x : Eg => decide (x.l = a)) (fun y => decide (ekey y < ekey e)) es e
    have h2 := h.2.2 a ha'
    unfold E.insE
    rw [h1]
    by_cases e' : e.l = a
    · subst e'
      simp only [elbC] at hc
      simp only [decide_true, if_true]
      omega
    · simp only [e', decide_false, Bool.false_eq_true, if_false]
      omega
theorem NOk.filter {ns : List Nd} (h : NOk ns) (p : Nd → Bool) : NOk (ns.filter p) :=
  ⟨fun x hx => h.1 x (List.mem_filter.1 hx).1, h.2.1.filter _, fun a ha => Nat.le_trans (List.filter_sublist.countP_le) (h.2.2 a ha)⟩
theorem EOk.filter {ns ns' : List Nd} {es : List Eg} (h : EOk ns es) (p : Eg → Bool) (hp : ∀ e ∈ es, p e = true → e.a ∈ ns' ∧ e.b ∈ ns') : EOk ns' (es.filter p) :=
  ⟨fun x hx => by
    obtain ⟨h1, h2⟩ := List.mem_filter.1 hx
    exact ⟨(h.1 x h1).1, hp x h1 h2⟩, h.2.1.filter _, fun a ha => Nat.le_trans (List.filter_sublist.countP_le) (h.2.2 a ha)⟩
theorem EOk.more {ns ns' : List Nd} {es : List Eg} (h : EOk ns es) (hs : ∀ x ∈ ns, x ∈ ns') : EOk ns' es :=
  ⟨fun x hx => ⟨(h.1 x hx).1, hs _ (h.1 x hx).2.1, hs _ (h.1 x hx).2.2⟩, h.2.1, h.2.2⟩
theorem endsC_fine {g : Gr} {o : Opn} (h : endsC g o = 0) : (o.k = 1 → o.n ∉ g.ns ∧ nlab g.ns o.n.l < 5) ∧ (o.k = 2 → o.e ∉ g.es ∧ o.e.a ∈ g.ns ∧ o.e.b ∈ g.ns ∧ elbC g.es o.e.l < 7) ∧ (o.k = 3 → o.e ∈ g.es) ∧ (o.k = 4 → o.n ∈ g.ns) := by
  unfold endsC at h
  split at h
  · omega
  · split at h
    · omega
    · split at h
      · omega
      · rename_i h1 h2 h3
        refine ⟨fun e => ?_, fun e => ?_, fun e => ?_, fun e => ?_⟩ <;> simp [e] at h1 h2 h3 <;> grind
theorem endsC_codes (g : Gr) (o : Opn) : endsC g o = 0 ∨ endsC g o = 2 ∨ endsC g o = 3 ∨ endsC g o = 4 := by
  unfold endsC; split
  · simp
  · split
    · simp
    · split <;> simp
theorem Gr.ok.turn {g : Gr} {o : Opn} (h : g.ok) (ho : 0 ≤ olab o) (he : endsC g o = 0) : (turnG g o).ok := by
  obtain ⟨f1, f2, f3, f4⟩ := endsC_fine he
  unfold turnG
  by_cases k1 : o.k = 1
  · rw [if_pos k1]
    have hn : nok o.n = true := by
      rcases olab_cases ho with ⟨_, h1, _⟩ | ⟨h0, _⟩
      · exact h1
      · omega
    exact ⟨h.1.insN hn (f1 k1).1 (f1 k1).2, h.2.more (fun x hx => mem_insN.2 (Or.inr hx))⟩
  · rw [if_neg k1]
    by_cases k2 : o.k = 2
    · rw [if_pos k2]
      have hn : eok o.e = true := by
        rcases olab_cases ho with ⟨h0, _⟩ | ⟨_, h1, _⟩
        · omega
        · exact h1
      obtain ⟨a, b, c, d⟩ := f2 k2
      exact ⟨h.1, h.2.insE hn b c a d⟩
    · rw [if_neg k2]
      by_cases k3 : o.k = 3
      · rw [if_pos k3]
        exact ⟨h.1, h.2.filter _ (fun e he _ => (h.2.1 e he).2)⟩
      · rw [if_neg k3]
        refine ⟨h.1.filter _, h.2.filter _ (fun e he hp => ?_)⟩
        simp only [Bool.and_eq_true, Bool.not_eq_true', decide_eq_false_iff_not] at hp
        simp only [List.mem_filter, Bool.not_eq_true', decide_eq_false_iff_not]
        exact ⟨⟨(h.2.1 e he).2.1, hp.1⟩, ⟨(h.2.1 e he).2.2, hp.2⟩⟩
theorem Gr.ok.doG {g : Gr} {o : Opn} (h : g.ok) : (doG g o).1.ok := by
  unfold E.doG
  split
  · exact h
  · split
    · exact h
    · rename_i h1 h2
      exact h.turn (by omega) (Decidable.not_not.1 h2)
/-! ### Views -/
def view (g : Gr) (c : Int) : Gr := ⟨g.ns.filter (fun x => lun x.l c), g.es.filter (fun e => lun e.l c)⟩
theorem Gr.ok.view {g : Gr} {c : Int} (h : g.ok) : (view g c).ok := by
  refine ⟨h.1.filter _, h.2.filter _ (fun e he hp => ?_)⟩
  obtain ⟨a, b, d⟩ := h.2.1 e he
  obtain ⟨p1, p2, p3, p4, p5, p6⟩ := eok_parts a
  exact ⟨List.mem_filter.2 ⟨b, lun_trans (lun_iff.2 ⟨nok_lok p2, p1, p5⟩) hp⟩, List.mem_filter.2 ⟨d, lun_trans (lun_iff.2 ⟨nok_lok p3, p1, p6⟩) hp⟩⟩
theorem view_view {g : Gr} {c c' : Int} (h : lun c c' = true) : view (view g c') c = view g c := by
  unfold view
  simp only [List.filter_filter]
  congr 1
  · apply List.filter_congr
    intro x _
    by_cases h1 : lun x.l c = true
    · simp [h1, lun_trans h1 h]
    · simp [h1]
  · apply List.filter_congr
    intro x _
    by_cases h1 : lun x.l c = true
    · simp [h1, lun_trans h1 h]
    · simp [h1]
theorem view_top {g : Gr} (h : g.ok) : view g 7 = g := by
  obtain ⟨ns, es⟩ := g
  simp only [view, Gr.mk.injEq, List.filter_eq_self]
  exact ⟨fun x hx => lun_top (nok_lok (h.1.1 x hx)), fun e he => lun_top (eok_parts (h.2.1 e he).1).1⟩
theorem filter_ins_no {α : Type} (p q : α → Bool) (xs : List α) (x : α) (hs : xs.filter q ++ xs.filter (fun y => !q y) = xs) (hx : p x = false) : (xs.filter q ++ x :: xs.filter (fun y => !q y)).filter p = xs.filter p := by
  conv => rhs; rw [← hs]
  simp [List.filter_append, hx]
theorem filter_ins_yes {α : Type} (p q : α → Bool) (xs : List α) (x : α) (hx : p x = true) : (xs.filter q ++ x :: xs.filter (fun y => !q y)).filter p = (xs.filter p).filter q ++ x :: (xs.filter p).filter (fun y => !q y) := by
  simp only [List.filter_append, List.filter_cons, hx, if_true, List.filter_filter]
  congr 1
  · apply List.filter_congr; intro y _; exact Bool.and_comm _ _
  · congr 1
    apply List.filter_congr; intro y _; exact Bool.and_comm _ _
theorem sorted_split {α : Type} (f : α → Int) {xs : List α} (c : Int) (h : xs.Pairwise (fun a b => f a < f b)) : xs.filter (fun y => decide (f y < c)) ++ xs.filter (fun y => !decide (f y < c)) = xs := by
  obtain ⟨m, m1, m2, m3⟩ := parts f xs c h
  obtain ⟨a, b⟩ := filter_split (fun y => decide (f y < c)) xs m m1 (fun i x hx hi => by simp [m2 i x hx hi]) (fun i x hx hi => by have := m3 i x hx hi; simp; omega)
  rw [a, b, List.take_append_drop]
/-- What is not seen and turned is turned in nothing that is seen. -/
theorem view_turn_no {g : Gr} {o : Opn} {c : Int} (h : g.ok) (ho : 0 ≤ olab o) (hc : lun (olab o) c = false) : view (turnG g o) c = view g c := by
  unfold turnG
  rcases olab_cases ho with ⟨hk, hn, e⟩ | ⟨hk, hn, e⟩ <;> rw [e] at hc
  · rcases hk with k | k
    · rw [if_pos k]
      simp only [view, Gr.mk.injEq, and_true]
      exact filter_ins_no (fun x : Nd => lun x.l c) _ _ _ (sorted_split cd _ h.1.2.1) hc
    · rw [if_neg (by omega), if_neg (by omega), if_neg (by omega)]
      simp only [view, Gr.mk.injEq, List.filter_filter]
      constructor
      · apply List.filter_congr
        intro x _
        by_cases hx : x = o.n
        · subst hx; simp [hc]
        · simp [hx]
      · apply List.filter_congr
        intro x hx
        obtain ⟨p1, p2, p3, p4, p5, p6⟩ := eok_parts (h.2.1 x hx).1
        by_cases hv : lun x.l c = true
        · have ha : x.a ≠ o.n := fun e' => by
            have := lun_trans (lun_iff.2 ⟨nok_lok p2, p1, p5⟩) hv
            rw [e', hc] at this; cases this
          have hb : x.b ≠ o.n := fun e' => by
            have := lun_trans (lun_iff.2 ⟨nok_lok p3, p1, p6⟩) hv
            rw [e', hc] at this; cases this
          simp [ha, hb]
        · simp [hv]
  · rcases hk with k | k
    · rw [if_neg (by omega), if_pos k]
      simp only [view, Gr.mk.injEq, true_and]
      exact filter_ins_no (fun x : Eg => lun x.l c) _ _ _ (sorted_split ekey _ h.2.2.1) hc
    · rw [if_neg (by omega), if_neg (by omega), if_pos k]
      simp only [view, Gr.mk.injEq, true_and, List.filter_filter]
      apply List.filter_congr
      intro x _
      by_cases hx : x = o.e
      · subst hx; simp [hc]
      · simp [hx]
theorem view_do_no {g : Gr} {o : Opn} {c : Int} (h : g.ok) (hc : lun (olab o) c = false) : view (doG g o).1 c = view g c := by
  unfold doG
  split
  · rfl
  · split
    · rfl
    · exact view_turn_no h (by omega) hc
theorem view_turn_yes {g : Gr} {o : Opn} {c : Int} (ho : 0 ≤ olab o) (hc : lun (olab o) c = true) : view (turnG g o) c = turnG (view g c) o := by
  unfold turnG
  rcases olab_cases ho with ⟨hk, hn, e⟩ | ⟨hk, hn, e⟩ <;> rw [e] at hc
  · rcases hk with k | k
    · simp only [k, if_true, view, Gr.mk.injEq, and_true]
      exact filter_ins_yes (fun x : Nd => lun x.l c) _ _ _ hc
    · simp only [k, view]
      simp [List.filter_filter, Bool.and_comm]
  · rcases hk with k | k
    · simp only [k, view]
      simp
      exact filter_ins_yes (fun x : Eg => lun x.l c) _ _ _ hc
    · simp only [k, view]
      simp [List.filter_filter, Bool.and_comm]
theorem count_view {α : Type} (f : α → Int) {a c : Int} (xs : List α) (hc : lun a c = true) : (xs.filter (fun x => lun (f x) c)).countP (fun x => decide (f x = a)) = xs.countP (fun x => decide (f x = a)) := by
  rw [List.countP_filter]
  apply List.countP_congr
  intro x _
  by_cases h : f x = a
  · simp [h, hc]
  · simp [h]
theorem endsC_view {g : Gr} {o : Opn} {c : Int} (ho : 0 ≤ olab o) (hc : lun (olab o) c = true) : endsC (view g c) o = endsC g o := by
  unfold endsC
  rcases olab_cases ho with ⟨hk, hn, e⟩ | ⟨hk, hn, e⟩ <;> rw [e] at hc
  · have h1 : o.n ∈ (view g c).ns ↔ o.n ∈ g.ns := by simp [view, hc]
    have h2 : nlab (view g c).ns o.n.l = nlab g.ns o.n.l := count_view (fun x : Nd => x.l) g.ns hc
    rcases hk with k | k <;> simp [k, h1, h2]
  · obtain ⟨p1, p2, p3, p4, p5, p6⟩ := eok_parts hn
    have h1 : o.e ∈ (view g c).es ↔ o.e ∈ g.es := by simp [view, hc]
    have h2 : elbC (view g c).es o.e.l = elbC g.es o.e.l := count_view (fun x : Eg => x.l) g.es hc
    have h3 : o.e.a ∈ (view g c).ns ↔ o.e.a ∈ g.ns := by simp [view, lun_trans (lun_iff.2 ⟨nok_lok p2, p1, p5⟩) hc]
    have h4 : o.e.b ∈ (view g c).ns ↔ o.e.b ∈ g.ns := by simp [view, lun_trans (lun_iff.2 ⟨nok_lok p3, p1, p6⟩) hc]
    rcases hk with k | k <;> simp [k, h1, h2, h3, h4]
theorem view_do_yes {g : Gr} {o : Opn} {c : Int} (ho : 0 ≤ olab o) (hc : lun (olab o) c = true) : view (doG g o).1 c = (doG (view g c) o).1 ∧ (doG g o).2 = (doG (view g c) o).2 := by
  unfold doG
  rw [if_neg (Int.not_lt.2 ho), if_neg (Int.not_lt.2 ho), endsC_view ho hc]
  by_cases he : endsC g o ≠ 0
  · rw [if_pos he, if_pos he]
    exact ⟨rfl, rfl⟩
  · rw [if_neg he, if_neg he]
    exact ⟨view_turn_yes ho hc, rfl⟩
end E
end Go.Proofs.Ytjdagbicjhmeeaa
