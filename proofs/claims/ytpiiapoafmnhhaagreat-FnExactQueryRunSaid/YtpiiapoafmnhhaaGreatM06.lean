/- Graphs: what is done to them, and what is seen of them (plain). -/
import Derived.Test.YtpiiapoafmnhhaaGreatM05
namespace Go.Proofs.YtpiiapoafmnhhaaGreat
namespace E
open Go
set_option linter.unusedVariables false
/-! ### Labels under labels -/
theorem und_trans {a b c : Int} (ha : lok a = true) (hb : lok b = true) (hc : lok c = true) (h1 : und a b = true) (h2 : und b c = true) : und a c = true := by
  have hh : ∀ a ∈ labs, ∀ b ∈ labs, ∀ c ∈ labs, und a b = true → und b c = true → und a c = true := by decide +kernel
  exact hh a (mem_labs.2 (lok_iff.1 ha)) b (mem_labs.2 (lok_iff.1 hb)) c (mem_labs.2 (lok_iff.1 hc)) h1 h2
theorem lun_iff {a b : Int} : lun a b = true ↔ lok a = true ∧ lok b = true ∧ und a b = true := by simp [lun, and_assoc]
theorem lun_trans {a b c : Int} (h1 : lun a b = true) (h2 : lun b c = true) : lun a c = true := by
  obtain ⟨a1, a2, a3⟩ := lun_iff.1 h1
  obtain ⟨b1, b2, b3⟩ := lun_iff.1 h2
  exact lun_iff.2 ⟨a1, b2, und_trans a1 a2 b2 a3 b3⟩
structure Gr where
  ns : List Nd
  es : List Eg
  deriving DecidableEq
def Gr.ok (g : Gr) : Prop := NOk g.ns ∧ EOk g.ns g.es
instance (g : Gr) : Decidable g.ok := by unfold Gr.ok; exact inferInstance
theorem Gr.ok_iff {g : Gr} : g.ok ↔ gok g.ns g.es = true := gok_iff.symm
theorem nok_lok {x : Nd} (h : nok x = true) : lok x.l = true := by have := nok_iff.1 h; exact lok_iff.2 ⟨this.1, this.2.1⟩
def insN (ns : List Nd) (n : Nd) : List Nd := ns.filter (fun x => decide (cd x < cd n)) ++ n :: ns.filter (fun x => !decide (cd x < cd n))
def insE (es : List Eg) (e : Eg) : List Eg := es.filter (fun x => decide (ekey x < ekey e)) ++ e :: es.filter (fun x => !decide (ekey x < ekey e))
/-- Where a list splits at a place by a test, the test's filters are its parts. -/
theorem filter_split {α : Type} (p : α → Bool) : ∀ (xs : List α) (m : Nat), m ≤ xs.length → (∀ (i : Nat) x, xs[i]? = some x → i < m → p x = true) → (∀ (i : Nat) x, xs[i]? = some x → m ≤ i → p x = false) → xs.filter p = xs.take m ∧ xs.filter (fun x => !p x) = xs.drop m
  | [], m, hm, _, _ => by simp
  | x :: xs, 0, hm, h1, h2 => by
    have h3 : ∀ y ∈ x :: xs, p y = false := fun y hy => by
      obtain ⟨i, hi⟩ := List.getElem?_of_mem hy
      exact h2 i y hi (Nat.zero_le _)
    constructor
    · rw [List.take_zero, List.filter_eq_nil_iff]
      intro y hy
      simp [h3 y hy]
    · rw [List.drop_zero, List.filter_eq_self]
      intro y hy
      simp [h3 y hy]
  | x :: xs, m + 1, hm, h1, h2 => by
    have hx := h1 0 x rfl (by omega)
    obtain ⟨a, b⟩ := filter_split p xs m (by simp at hm; omega) (fun i y hy hi => h1 (i + 1) y (by simpa using hy) (by omega)) (fun i y hy hi => h2 (i + 1) y (by simpa using hy) (by omega))
    simp [hx, a, b]
def endsC (g : Gr) (o : Opn) : Int :=
  if o.k = 1 ∧ o.n ∈ g.ns ∨ o.k = 2 ∧ o.e ∈ g.es then 2
  else if o.k = 4 ∧ o.n ∉ g.ns ∨ o.k = 3 ∧ o.e ∉ g.es ∨ o.k = 2 ∧ ¬ (o.e.a ∈ g.ns ∧ o.e.b ∈ g.ns) then 3
  else if o.k = 1 ∧ 5 ≤ nlab g.ns o.n.l ∨ o.k = 2 ∧ 7 ≤ elbC g.es o.e.l then 4 else 0
/-- What an op makes of a graph, if nothing stands against it. -/
def turnG (g : Gr) (o : Opn) : Gr :=
  if o.k = 1 then ⟨insN g.ns o.n, g.es⟩
  else if o.k = 2 then ⟨g.ns, insE g.es o.e⟩
  else if o.k = 3 then ⟨g.ns, g.es.filter (fun e => !decide (e = o.e))⟩
  else ⟨g.ns.filter (fun x => !decide (x = o.n)), g.es.filter (fun e => !decide (e.a = o.n) && !decide (e.b = o.n))⟩
/-- What is done to a right graph: the graph, and how it ends. -/
def doG (g : Gr) (o : Opn) : Gr × Int :=
  if olab o < 0 then (g, 1) else if endsC g o ≠ 0 then (g, endsC g o) else (turnG g o, 0)
theorem olab_cases {o : Opn} (h : 0 ≤ olab o) : ((o.k = 1 ∨ o.k = 4) ∧ nok o.n = true ∧ olab o = o.n.l) ∨ ((o.k = 2 ∨ o.k = 3) ∧ eok o.e = true ∧ olab o = o.e.l) := by
  unfold olab at h ⊢
  by_cases h1 : o.k = 1 ∨ o.k = 4
  · rw [if_pos h1] at h ⊢
    by_cases h2 : (nok o.n && decide ([o.e.l, o.e.a.l, o.e.a.n, o.e.b.l, o.e.b.n] = [0, 0, 0, 0, 0])) = true
    · rw [if_pos h2]
      simp only [Bool.and_eq_true] at h2
      exact Or.inl ⟨h1, h2.1, rfl⟩
    · rw [if_neg h2] at h; omega
  · rw [if_neg h1] at h ⊢
    by_cases h2 : o.k = 2 ∨ o.k = 3
    · rw [if_pos h2] at h ⊢
      by_cases h3 : (eok o.e && decide ([o.n.l, o.n.n] = [0, 0])) = true
      · rw [if_pos h3]
        simp only [Bool.and_eq_true] at h3
        exact Or.inr ⟨h2, h3.1, rfl⟩
      · rw [if_neg h3] at h; omega
    · rw [if_neg h2] at h; omega
theorem olab_lok {o : Opn} (h : 0 ≤ olab o) : lok (olab o) = true := by
  rcases olab_cases h with ⟨_, h1, e⟩ | ⟨_, h1, e⟩
  · rw [e]; exact nok_lok h1
  · rw [e]; exact (eok_parts h1).1
theorem mem_insN {ns : List Nd} {n x : Nd} : x ∈ insN ns n ↔ x = n ∨ x ∈ ns := by
  simp only [insN, List.mem_append, List.mem_cons, List.mem_filter, Bool.not_eq_true', decide_eq_true_eq, decide_eq_false_iff_not]
  by_cases h : cd x < cd n <;> simp [h] <;> grind
theorem mem_insE {es : List Eg} {e x : Eg} : x ∈ insE es e ↔ x = e ∨ x ∈ es := by
  simp only [insE, List.mem_append, List.mem_cons, List.mem_filter, Bool.not_eq_true', decide_eq_true_eq, decide_eq_false_iff_not]
  by_cases h : ekey x < ekey e <;> simp [h] <;> grind
theorem sorted_ins {α : Type} (f : α → Int) {xs : List α} {x : α} (h : xs.Pairwise (fun a b => f a < f b)) (hx : ∀ y ∈ xs, f y ≠ f x) : (xs.filter (fun y => decide (f y < f x)) ++ x :: xs.filter (fun y => !decide (f y < f x))).Pairwise (fun a b => f a < f b) := by
  rw [List.pairwise_append, List.pairwise_cons]
  refine ⟨h.filter _, ⟨fun y hy => ?_, h.filter _⟩, fun y hy z hz => ?_⟩
  · simp only [List.mem_filter, Bool.not_eq_true', decide_eq_false_iff_not] at hy
    have := hx y hy.1
    omega
  · simp only [List.mem_filter, List.mem_cons, Bool.not_eq_true', decide_eq_true_eq, decide_eq_false_iff_not] at hy hz
    rcases hz with rfl | hz
    · exact hy.2
    · omega
theorem count_ins {α : Type} (p q : α → Bool) (xs : List α) (x : α) : (xs.filter q ++ x :: xs.filter (fun y => !q y)).countP p = xs.countP p + if p x = true then 1 else 0 := by
  induction xs with
  | nil => simp [List.countP_cons]
  | cons y ys ih =>
    by_cases h : q y = true
    · simp only [List.filter_cons, h, if_true, Bool.not_true, Bool.false_eq_true, if_false, List.cons_append, List.countP_cons]
      rw [ih]
      omega
    · have h' : q y = false := by simpa using h
      simp only [List.filter_cons, h', Bool.not_false, if_true, Bool.false_eq_true, if_false, List.countP_append, List.countP_cons] at ih ⊢
      omega
theorem NOk.insN {ns : List Nd} {n : Nd} (h : NOk ns) (hn : nok n = true) (hm : n ∉ ns) (hc : nlab ns n.l < 5) : NOk (insN ns n) := by
  refine ⟨fun x hx => ?_, sorted_ins cd h.2.1 (fun y hy e => ?_), fun a ha => ?_⟩
  · rcases mem_insN.1 hx with rfl | hx
    · exact hn
    · exact h.1 x hx
  · exact hm (cd_inj (h.1 y hy) hn e ▸ hy)
  · have h1 := count_ins (fun x : Nd => decide (x.l = a)) (fun y => decide (cd y < cd n)) ns n
    have h2 := h.2.2 a ha
    unfold E.insN
    rw [h1]
    by_cases e : n.l = a
    · subst e
      simp only [nlab] at hc
      simp only [decide_true, if_true]
      omega
    · simp only [e, decide_false, Bool.false_eq_true, if_false]
      omega
theorem EOk.insE {ns : List Nd} {es : List Eg} {e : Eg} (h : EOk ns es) (he : eok e = true) (ha : e.a ∈ ns) (hb : e.b ∈ ns) (hm : e ∉ es) (hc : elbC es e.l < 7) : EOk ns (insE es e) := by
  refine ⟨fun x hx => ?_, sorted_ins ekey h.2.1 (fun y hy e' => ?_), fun a ha' => ?_⟩
  · rcases mem_insE.1 hx with rfl | hx
    · exact ⟨he, ha, hb⟩
    · exact h.1 x hx
  · exact hm (ekey_inj (h.1 y hy).1 he e' ▸ hy)
  · have h1 := count_ins (fun x : Eg => decide (x.l = a)) (fun y => decide (ekey y < ekey e)) es e
    have h2 := h.2.2 a ha'
    unfold E.insE
    rw [h1]
    by_cases e' : e.l = a
    · subst e'
      simp only [elbC] at hc
      simp only [decide_true, if_true]
      omega
    · simp only [e', decide_false, Bool.false_eq_true, if_false]
      omega
theorem NOk.filter {ns : List Nd} (h : NOk ns) (p : Nd → Bool) : NOk (ns.filter p) :=
  ⟨fun x hx => h.1 x (List.mem_filter.1 hx).1, h.2.1.filter _, fun a ha => Nat.le_trans (List.filter_sublist.countP_le) (h.2.2 a ha)⟩
theorem EOk.filter {ns ns' : List Nd} {es : List Eg} (h : EOk ns es) (p : Eg → Bool) (hp : ∀ e ∈ es, p e = true → e.a ∈ ns' ∧ e.b ∈ ns') : EOk ns' (es.filter p) :=
  ⟨fun x hx => by
    obtain ⟨h1, h2⟩ := List.mem_filter.1 hx
    exact ⟨(h.1 x h1).1, hp x h1 h2⟩, h.2.1.filter _, fun a ha => Nat.le_trans (List.filter_sublist.countP_le) (h.2.2 a ha)⟩
theorem EOk.more {ns ns' : List Nd} {es : List Eg} (h : EOk ns es) (hs : ∀ x ∈ ns, x ∈ ns') : EOk ns' es :=
  ⟨fun x hx => ⟨(h.1 x hx).1, hs _ (h.1 x hx).2.1, hs _ (h.1 x hx).2.2⟩, h.2.1, h.2.2⟩
theorem endsC_fine {g : Gr} {o : Opn} (h : endsC g o = 0) : (o.k = 1 → o.n ∉ g.ns ∧ nlab g.ns o.n.l < 5) ∧ (o.k = 2 → o.e ∉ g.es ∧ o.e.a ∈ g.ns ∧ o.e.b ∈ g.ns ∧ elbC g.es o.e.l < 7) ∧ (o.k = 3 → o.e ∈ g.es) ∧ (o.k = 4 → o.n ∈ g.ns) := by
  unfold endsC at h
  split at h
  · omega
  · split at h
    · omega
    · split at h
      · omega
      · rename_i h1 h2 h3
        refine ⟨fun e => ?_, fun e => ?_, fun e => ?_, fun e => ?_⟩ <;> simp [e] at h1 h2 h3 <;> grind
theorem Gr.ok.turn {g : Gr} {o : Opn} (h : g.ok) (ho : 0 ≤ olab o) (he : endsC g o = 0) : (turnG g o).ok := by
  obtain ⟨f1, f2, f3, f4⟩ := endsC_fine he
  unfold turnG
  by_cases k1 : o.k = 1
  · rw [if_pos k1]
    have hn : nok o.n = true := by
      rcases olab_cases ho with ⟨_, h1, _⟩ | ⟨h0, _⟩
      · exact h1
      · omega
    exact ⟨h.1.insN hn (f1 k1).1 (f1 k1).2, h.2.more (fun x hx => mem_insN.2 (Or.inr hx))⟩
  · rw [if_neg k1]
    by_cases k2 : o.k = 2
    · rw [if_pos k2]
      have hn : eok o.e = true := by
        rcases olab_cases ho with ⟨h0, _⟩ | ⟨_, h1, _⟩
        · omega
        · exact h1
      obtain ⟨a, b, c, d⟩ := f2 k2
      exact ⟨h.1, h.2.insE hn b c a d⟩
    · rw [if_neg k2]
      by_cases k3 : o.k = 3
      · rw [if_pos k3]
        exact ⟨h.1, h.2.filter _ (fun e he _ => (h.2.1 e he).2)⟩
      · rw [if_neg k3]
        refine ⟨h.1.filter _, h.2.filter _ (fun e he hp => ?_)⟩
        simp only [Bool.and_eq_true, Bool.not_eq_true', decide_eq_false_iff_not] at hp
        simp only [List.mem_filter, Bool.not_eq_true', decide_eq_false_iff_not]
        exact ⟨⟨(h.2.1 e he).2.1, hp.1⟩, ⟨(h.2.1 e he).2.2, hp.2⟩⟩
theorem Gr.ok.doG {g : Gr} {o : Opn} (h : g.ok) : (doG g o).1.ok := by
  unfold E.doG
  split
  · exact h
  · split
    · exact h
    · rename_i h1 h2
      exact h.turn (by omega) (Decidable.not_not.1 h2)
/-! ### Views -/
def view (g : Gr) (c : Int) : Gr := ⟨g.ns.filter (fun x => lun x.l c), g.es.filter (fun e => lun e.l c)⟩
theorem Gr.ok.view {g : Gr} {c : Int} (h : g.ok) : (view g c).ok := by
  refine ⟨h.1.filter _, h.2.filter _ (fun e he hp => ?_)⟩
  obtain ⟨a, b, d⟩ := h.2.1 e he
  obtain ⟨p1, p2, p3, p4, p5, p6⟩ := eok_parts a
  exact ⟨List.mem_filter.2 ⟨b, lun_trans (lun_iff.2 ⟨nok_lok p2, p1, p5⟩) hp⟩, List.mem_filter.2 ⟨d, lun_trans (lun_iff.2 ⟨nok_lok p3, p1, p6⟩) hp⟩⟩
theorem view_view {g : Gr} {c c' : Int} (h : lun c c' = true) : view (view g c') c = view g c := by
  unfold view
  simp only [List.filter_filter]
  congr 1
  · apply List.filter_congr
    intro x _
    by_cases h1 : lun x.l c = true
    · simp [h1, lun_trans h1 h]
    · simp [h1]
  · apply List.filter_congr
    intro x _
    by_cases h1 : lun x.l c = true
    · simp [h1, lun_trans h1 h]
    · simp [h1]
theorem filter_ins_no {α : Type} (p q : α → Bool) (xs : List α) (x : α) (hs : xs.filter q ++ xs.filter (fun y => !q y) = xs) (hx : p x = false) : (xs.filter q ++ x :: xs.filter (fun y => !q y)).filter p = xs.filter p := by
  conv => rhs; rw [← hs]
  simp [List.filter_append, hx]
theorem filter_ins_yes {α : Type} (p q : α → Bool) (xs : List α) (x : α) (hx : p x = true) : (xs.filter q ++ x :: xs.filter (fun y => !q y)).filter p = (xs.filter p).filter q ++ x :: (xs.filter p).filter (fun y => !q y) := by
  simp only [List.filter_append, List.filter_cons, hx, if_true, List.filter_filter]
  congr 1
  · apply List.filter_congr; intro y _; exact Bool.and_comm _ _
  · congr 1
    apply List.filter_congr; intro y _; exact Bool.and_comm _ _
theorem sorted_split {α : Type} (f : α → Int) {xs : List α} (c : Int) (h : xs.Pairwise (fun a b => f a < f b)) : xs.filter (fun y => decide (f y < c)) ++ xs.filter (fun y => !decide (f y < c)) = xs := by
  obtain ⟨m, m1, m2, m3⟩ := parts f xs c h
  obtain ⟨a, b⟩ := filter_split (fun y => decide (f y < c)) xs m m1 (fun i x hx hi => by simp [m2 i x hx hi]) (fun i x hx hi => by have := m3 i x hx hi; simp; omega)
  rw [a, b, List.take_append_drop]
/-- What is not seen and turned is turned in nothing that is seen. -/
theorem view_turn_no {g : Gr} {o : Opn} {c : Int} (h : g.ok) (ho : 0 ≤ olab o) (hc : lun (olab o) c = false) : view (turnG g o) c = view g c := by
  unfold turnG
  rcases olab_cases ho with ⟨hk, hn, e⟩ | ⟨hk, hn, e⟩ <;> rw [e] at hc
  · rcases hk with k | k
    · rw [if_pos k]
      simp only [view, Gr.mk.injEq, and_true]
      exact filter_ins_no (fun x : Nd => lun x.l c) _ _ _ (sorted_split cd _ h.1.2.1) hc
    · rw [if_neg (by omega), if_neg (by omega), if_neg (by omega)]
      simp only [view, Gr.mk.injEq, List.filter_filter]
      constructor
      · apply List.filter_congr
        intro x _
        by_cases hx : x = o.n
        · subst hx; simp [hc]
        · simp [hx]
      · apply List.filter_congr
        intro x hx
        obtain ⟨p1, p2, p3, p4, p5, p6⟩ := eok_parts (h.2.1 x hx).1
        by_cases hv : lun x.l c = true
        · have ha : x.a ≠ o.n := fun e' => by
            have := lun_trans (lun_iff.2 ⟨nok_lok p2, p1, p5⟩) hv
            rw [e', hc] at this; cases this
          have hb : x.b ≠ o.n := fun e' => by
            have := lun_trans (lun_iff.2 ⟨nok_lok p3, p1, p6⟩) hv
            rw [e', hc] at this; cases this
          simp [ha, hb]
        · simp [hv]
  · rcases hk with k | k
    · rw [if_neg (by omega), if_pos k]
      simp only [view, Gr.mk.injEq, true_and]
      exact filter_ins_no (fun x : Eg => lun x.l c) _ _ _ (sorted_split ekey _ h.2.2.1) hc
    · rw [if_neg (by omega), if_neg (by omega), if_pos k]
      simp only [view, Gr.mk.injEq, true_and, List.filter_filter]
      apply List.filter_congr
      intro x _
      by_cases hx : x = o.e
      · subst hx; simp [hc]
      · simp [hx]
theorem view_do_no {g : Gr} {o : Opn} {c : Int} (h : g.ok) (hc : lun (olab o) c = false) : view (doG g o).1 c = view g c := by
  unfold doG
  split
  · rfl
  · split
    · rfl
    · exact view_turn_no h (by omega) hc
theorem view_turn_yes {g : Gr} {o : Opn} {c : Int} (ho : 0 ≤ olab o) (hc : lun (olab o) c = true) : view (turnG g o) c = turnG (view g c) o := by
  unfold turnG
  rcases olab_cases ho with ⟨hk, hn, e⟩ | ⟨hk, hn, e⟩ <;> rw [e] at hc
  · rcases hk with k | k
    · simp only [k, if_true, view, Gr.mk.injEq, and_true]
      exact filter_ins_yes (fun x : Nd => lun x.l c) _ _ _ hc
    · simp only [k, view]
      simp [List.filter_filter, Bool.and_comm]
  · rcases hk with k | k
    · simp only [k, view]
      simp
      exact filter_ins_yes (fun x : Eg => lun x.l c) _ _ _ hc
    · simp only [k, view]
      simp [List.filter_filter, Bool.and_comm]
theorem count_view {α : Type} (f : α → Int) {a c : Int} (xs : List α) (hc : lun a c = true) : (xs.filter (fun x => lun (f x) c)).countP (fun x => decide (f x = a)) = xs.countP (fun x => decide (f x = a)) := by
  rw [List.countP_filter]
  apply List.countP_congr
  intro x _
  by_cases h : f x = a
  · simp [h, hc]
  · simp [h]
theorem endsC_view {g : Gr} {o : Opn} {c : Int} (ho : 0 ≤ olab o) (hc : lun (olab o) c = true) : endsC (view g c) o = endsC g o := by
  unfold endsC
  rcases olab_cases ho with ⟨hk, hn, e⟩ | ⟨hk, hn, e⟩ <;> rw [e] at hc
  · have h1 : o.n ∈ (view g c).ns ↔ o.n ∈ g.ns := by simp [view, hc]
    have h2 : nlab (view g c).ns o.n.l = nlab g.ns o.n.l := count_view (fun x : Nd => x.l) g.ns hc
    rcases hk with k | k <;> simp [k, h1, h2]
  · obtain ⟨p1, p2, p3, p4, p5, p6⟩ := eok_parts hn
    have h1 : o.e ∈ (view g c).es ↔ o.e ∈ g.es := by simp [view, hc]
    have h2 : elbC (view g c).es o.e.l = elbC g.es o.e.l := count_view (fun x : Eg => x.l) g.es hc
    have h3 : o.e.a ∈ (view g c).ns ↔ o.e.a ∈ g.ns := by simp [view, lun_trans (lun_iff.2 ⟨nok_lok p2, p1, p5⟩) hc]
    have h4 : o.e.b ∈ (view g c).ns ↔ o.e.b ∈ g.ns := by simp [view, lun_trans (lun_iff.2 ⟨nok_lok p3, p1, p6⟩) hc]
    rcases hk with k | k <;> simp [k, h1, h2, h3, h4]
theorem view_do_yes {g : Gr} {o : Opn} {c : Int} (ho : 0 ≤ olab o) (hc : lun (olab o) c = true) : view (doG g o).1 c = (doG (view g c) o).1 ∧ (doG g o).2 = (doG (view g c) o).2 := by
  unfold doG
  rw [if_neg (Int.not_lt.2 ho), if_neg (Int.not_lt.2 ho), endsC_view ho hc]
  by_cases he : endsC g o ≠ 0
  · rw [if_pos he, if_pos he]
    exact ⟨rfl, rfl⟩
  · rw [if_neg he, if_neg he]
    exact ⟨view_turn_yes ho hc, rfl⟩
end E
end Go.Proofs.YtpiiapoafmnhhaaGreat
/- What is near, places, steps (plain). -/
namespace Go.Proofs.YtpiiapoafmnhhaaGreat
namespace E
open Go
set_option linter.unusedVariables false
/-! ### What is near -/
def other (e : Eg) (n : Nd) : Option Nd := if e.a = n then some e.b else if e.b = n then some e.a else none
def addN (acc : List Nd) (m : Nd) : List Nd := if m ∈ acc then acc else insN acc m
def nearS (n : Nd) (acc : List Nd) (e : Eg) : List Nd := match other e n with
  | some m => addN acc m
  | none => acc
def nearL (es : List Eg) (n : Nd) : List Nd := es.foldl (nearS n) []
theorem foldl_take_succ {α β : Type} (f : β → α → β) (b : β) {xs : List α} {k : Nat} {x : α} (h : xs[k]? = some x) : (xs.take (k + 1)).foldl f b = f ((xs.take k).foldl f b) x := by
  rw [List.take_add_one, h]
  simp
theorem nearL_step {es : List Eg} {n : Nd} {k : Nat} {e : Eg} (h : es[k]? = some e) : nearL (es.take (k + 1)) n = nearS n (nearL (es.take k) n) e := foldl_take_succ _ _ h
theorem mem_addN {acc : List Nd} {m x : Nd} : x ∈ addN acc m ↔ x = m ∨ x ∈ acc := by
  unfold addN
  split
  · constructor
    · exact Or.inr
    · rintro (rfl | h) <;> assumption
  · exact mem_insN
theorem mem_foldl_near {n x : Nd} : ∀ (es : List Eg) (acc : List Nd), x ∈ es.foldl (nearS n) acc ↔ x ∈ acc ∨ ∃ e ∈ es, other e n = some x
  | [], acc => by simp
  | e :: es, acc => by
    rw [List.foldl_cons, mem_foldl_near es]
    unfold nearS
    cases h : other e n with
    | none => simp [h]
    | some m =>
      simp only [mem_addN, List.mem_cons]
      constructor
      · rintro ((rfl | h1) | ⟨e', h1, h2⟩)
        · exact Or.inr ⟨e, Or.inl rfl, h⟩
        · exact Or.inl h1
        · exact Or.inr ⟨e', Or.inr h1, h2⟩
      · rintro (h1 | ⟨e', h1 | h1, h2⟩)
        · exact Or.inl (Or.inr h1)
        · subst h1; rw [h] at h2; injection h2 with h2; exact Or.inl (Or.inl h2.symm)
        · exact Or.inr ⟨e', h1, h2⟩
theorem mem_nearL {es : List Eg} {n x : Nd} : x ∈ nearL es n ↔ ∃ e ∈ es, other e n = some x := by
  unfold nearL
  rw [mem_foldl_near]
  simp
theorem Ord.addN {acc : List Nd} {m : Nd} (h : Ord acc) (hm : nok m = true) : Ord (addN acc m) := by
  unfold E.addN
  split
  · exact h
  · rename_i hn
    refine ⟨fun x hx => ?_, sorted_ins cd h.2 (fun y hy e => hn (cd_inj (h.1 y hy) hm e ▸ hy))⟩
    rcases mem_insN.1 hx with rfl | hx
    · exact hm
    · exact h.1 x hx
theorem other_nok {e : Eg} {n m : Nd} (he : eok e = true) (h : other e n = some m) : nok m = true := by
  obtain ⟨p1, p2, p3, _⟩ := eok_parts he
  unfold other at h
  split at h
  · injection h with h; subst h; exact p3
  · split at h
    · injection h with h; subst h; exact p2
    · cases h
theorem ord_foldl_near {n : Nd} : ∀ (es : List Eg) (acc : List Nd), (∀ e ∈ es, eok e = true) → Ord acc → Ord (es.foldl (nearS n) acc)
  | [], acc, _, h => h
  | e :: es, acc, he, h => by
    rw [List.foldl_cons]
    refine ord_foldl_near es _ (fun x hx => he x (List.mem_cons_of_mem _ hx)) ?_
    unfold nearS
    cases ho : other e n with
    | none => exact h
    | some m => exact h.addN (other_nok (he e List.mem_cons_self) ho)
theorem ord_nearL {es : List Eg} {n : Nd} (h : ∀ e ∈ es, eok e = true) : Ord (nearL es n) := ord_foldl_near es [] h ⟨by simp, by simp⟩
/-- Lists in strict order with the same members are one. -/
theorem sorted_ext {α : Type} (f : α → Int) : ∀ {xs ys : List α}, xs.Pairwise (fun a b => f a < f b) → ys.Pairwise (fun a b => f a < f b) → (∀ x, x ∈ xs ↔ x ∈ ys) → xs = ys
  | [], [], _, _, _ => rfl
  | [], y :: ys, _, _, h => by have := (h y).2 List.mem_cons_self; cases this
  | x :: xs, [], _, _, h => by have := (h x).1 List.mem_cons_self; cases this
  | x :: xs, y :: ys, hx, hy, h => by
    obtain ⟨hx1, hx2⟩ := List.pairwise_cons.1 hx
    obtain ⟨hy1, hy2⟩ := List.pairwise_cons.1 hy
    have e : x = y := by
      have h1 := (h x).1 List.mem_cons_self
      have h2 := (h y).2 List.mem_cons_self
      rcases List.mem_cons.1 h1 with e | h1
      · exact e
      · rcases List.mem_cons.1 h2 with e | h2
        · exact e.symm
        · have := hx1 y h2; have := hy1 x h1; omega
    subst e
    congr 1
    refine sorted_ext f hx2 hy2 (fun z => ?_)
    constructor
    · intro hz
      rcases List.mem_cons.1 ((h z).1 (List.mem_cons_of_mem _ hz)) with e | h1
      · subst e; have := hx1 z hz; omega
      · exact h1
    · intro hz
      rcases List.mem_cons.1 ((h z).2 (List.mem_cons_of_mem _ hz)) with e | h1
      · subst e; have := hy1 z hz; omega
      · exact h1
theorem Ord.nodup {ns : List Nd} (h : Ord ns) : ns.Nodup := h.2.imp (fun {a b} hab e => by subst e; omega)
theorem NOk.nodup {ns : List Nd} (h : NOk ns) : ns.Nodup := h.ord.nodup
theorem near_mem_ns {g : Gr} (h : g.ok) {n x : Nd} (hx : x ∈ nearL g.es n) : x ∈ g.ns ∧ n ∈ g.ns ∧ x ≠ n := by
  obtain ⟨e, he, ho⟩ := mem_nearL.1 hx
  obtain ⟨h1, h2, h3⟩ := h.2.1 e he
  have hlt := (eok_parts h1).2.2.2.1
  unfold other at ho
  split at ho
  · injection ho with ho
    rename_i ha
    subst ho; subst ha
    exact ⟨h3, h2, fun e' => by rw [e'] at hlt; omega⟩
  · split at ho
    · injection ho with ho
      rename_i ha hb
      subst ho; subst hb
      exact ⟨h2, h3, fun e' => by rw [e'] at hlt; omega⟩
    · cases ho
/-- The place of a node that is there. -/
def plc (ns : List Nd) (n : Nd) : Nat := (pos ns n).toNat
theorem plc_ok {ns : List Nd} {n : Nd} (h : n ∈ ns) : pos ns n = (plc ns n : Nat) ∧ ns[plc ns n]? = some n ∧ plc ns n < ns.length := by
  obtain ⟨k, e, hk, _⟩ := pos_ok h
  unfold plc
  rw [e, Int.toNat_natCast]
  exact ⟨rfl, hk, (List.getElem?_eq_some_iff.1 hk).1⟩
theorem nd_idx {α : Type} {xs : List α} (h : xs.Nodup) {i j : Nat} {x : α} (hi : xs[i]? = some x) (hj : xs[j]? = some x) : i = j := by
  obtain ⟨h1, e1⟩ := List.getElem?_eq_some_iff.1 hi
  obtain ⟨h2, e2⟩ := List.getElem?_eq_some_iff.1 hj
  exact (List.getElem_inj h).1 (e1.trans e2.symm)
theorem plc_at {ns : List Nd} {n : Nd} (h : ns.Nodup) {i : Nat} (hi : ns[i]? = some n) : plc ns n = i := nd_idx h (plc_ok (List.mem_of_getElem? hi)).2.1 hi
theorem plc_mono {ns : List Nd} (h : Ord ns) {x y : Nd} (hx : x ∈ ns) (hy : y ∈ ns) : plc ns x < plc ns y ↔ cd x < cd y := by
  obtain ⟨_, a1, a2⟩ := plc_ok hx
  obtain ⟨_, b1, b2⟩ := plc_ok hy
  obtain ⟨_, e1⟩ := List.getElem?_eq_some_iff.1 a1
  obtain ⟨_, e2⟩ := List.getElem?_eq_some_iff.1 b1
  have hp := List.pairwise_iff_getElem.1 h.2
  rcases Nat.lt_trichotomy (plc ns x) (plc ns y) with hlt | he | hgt
  · have := hp _ _ a2 b2 hlt
    rw [e1, e2] at this
    exact ⟨fun _ => this, fun _ => hlt⟩
  · constructor
    · intro h; omega
    · intro hc
      have : x = y := by rw [← e1, ← e2]; simp [he]
      subst this; omega
  · have := hp _ _ b2 a2 hgt
    rw [e1, e2] at this
    constructor
    · intro h; omega
    · intro h; omega
/-- The places of what is near, for each node. -/
def adjL (g : Gr) : List (List Nat) := g.ns.map (fun n => (nearL g.es n).map (plc g.ns))
/-- Rows of places: below n, ascending, never the own one. -/
def AOk (n : Nat) (adj : List (List Nat)) : Prop := adj.length = n ∧ ∀ (i : Nat) row, adj[i]? = some row → (∀ j ∈ row, j < n ∧ j ≠ i) ∧ row.Pairwise (· < ·)
theorem adj_get {g : Gr} {i : Nat} {n : Nd} (h : g.ns[i]? = some n) : (adjL g)[i]? = some ((nearL g.es n).map (plc g.ns)) := by simp [adjL, h]
theorem AOk.of {g : Gr} (h : g.ok) : AOk g.ns.length (adjL g) := by
  refine ⟨by simp [adjL], fun i row hr => ?_⟩
  simp only [adjL, List.getElem?_map, Option.map_eq_some_iff] at hr
  obtain ⟨n, hn, rfl⟩ := hr
  have ho := ord_nearL (n := n) (fun e he => (h.2.1 e he).1)
  constructor
  · intro j hj
    obtain ⟨x, hx, rfl⟩ := List.mem_map.1 hj
    obtain ⟨h1, h2, h3⟩ := near_mem_ns h hx
    refine ⟨(plc_ok h1).2.2, fun e => h3 ?_⟩
    have := (plc_ok h1).2.1
    rw [e, hn] at this
    injection this with this
    exact this.symm
  · rw [List.pairwise_map]
    refine ho.2.imp_of_mem (fun {a b} ha hb hab => ?_)
    exact (plc_mono h.1.ord (near_mem_ns h ha).1 (near_mem_ns h hb).1).2 hab
theorem nd_le : ∀ (n : Nat) (xs : List Nat), xs.Nodup → (∀ x ∈ xs, x < n) → xs.length ≤ n
  | 0, xs, _, h => by
    cases xs with
    | nil => simp
    | cons x xs => have := h x List.mem_cons_self; omega
  | n + 1, xs, hn, h => by
    have h1 := nd_le n (xs.erase n) (hn.erase n) (fun x hx => by
      have h2 := h x (List.mem_of_mem_erase hx)
      have h3 : x ≠ n := fun e => by subst e; exact (List.Nodup.not_mem_erase hn) hx
      omega)
    have := List.length_erase (a := n) (l := xs)
    split at this <;> omega
theorem row_len {n i : Nat} {row : List Nat} (h : ∀ j ∈ row, j < n ∧ j ≠ i) (hp : row.Pairwise (· < ·)) (hi : i < n) : row.length < n := by
  have hnd : (i :: row).Nodup := List.nodup_cons.2 ⟨fun hm => (h i hm).2 rfl, hp.imp (fun hab e => by omega)⟩
  have := nd_le n _ hnd (fun x hx => by
    rcases List.mem_cons.1 hx with rfl | hx
    · exact hi
    · exact (h x hx).1)
  simp at this
  omega
/-! ### Steps -/
structure Bf where
  st : List Int
  mt : List Nat
def bfIn (d : Int) (s : Bf) (o : Nat) : Bf := if s.st.getD o 0 < 0 then ⟨s.st.set o (d + 1), s.mt ++ [o]⟩ else s
def bfRow (adj : List (List Nat)) (s : Bf) (i : Nat) : Bf := (adj.getD i []).foldl (bfIn (s.st.getD i 0)) s
def bfGo (adj : List (List Nat)) : Nat → Nat → Bf → Bf
  | 0, _, s => s
  | f + 1, k, s => match s.mt[k]? with
    | none => s
    | some i => bfGo adj f (k + 1) (bfRow adj s i)
def bf0 (n : Nat) (i : Nat) : Bf := ⟨(List.replicate n (-1)).set i 0, [i]⟩
def bfs (adj : List (List Nat)) (n i : Nat) : Bf := bfGo adj n 0 (bf0 n i)
structure BI (n i0 : Nat) (s : Bf) : Prop where
  len : s.st.length = n
  lt : ∀ i ∈ s.mt, i < n
  nd : s.mt.Nodup
  iff : ∀ i, i < n → (0 ≤ s.st.getD i 0 ↔ i ∈ s.mt)
  bd : ∀ i, i < n → -1 ≤ s.st.getD i 0 ∧ s.st.getD i 0 < s.mt.length
  hd : s.st.getD i0 0 = 0
  pos : 0 < s.mt.length
theorem BI.mlen {n i0 : Nat} {s : Bf} (h : BI n i0 s) : s.mt.length ≤ n := nd_le n _ h.nd h.lt
theorem getD_set {xs : List Int} {i j : Nat} {v d : Int} (h : i < xs.length) : (xs.set i v).getD j d = if i = j then v else xs.getD j d := by
  simp only [List.getD_eq_getElem?_getD, List.getElem?_set]
  by_cases e : i = j
  · subst e; simp [h]
  · simp [e]
theorem BI.zero {n i : Nat} (h : i < n) : BI n i (bf0 n i) := by
  have hl : (List.replicate n (-1 : Int)).length = n := by simp
  have hg : ∀ j, j < n → ((List.replicate n (-1 : Int)).set i 0).getD j 0 = if i = j then 0 else -1 := fun j hj => by
    rw [getD_set (by omega)]
    split
    · rfl
    · simp [List.getD_eq_getElem?_getD, hj]
  refine ⟨by simp [bf0], by simp [bf0, h], by simp [bf0], fun j hj => ?_, fun j hj => ?_, ?_, by simp [bf0]⟩
  · simp only [bf0]; rw [hg j hj]
    by_cases e : i = j
    · simp [e]
    · simp [e]; exact fun e' => e e'.symm
  · simp only [bf0]; rw [hg j hj]
    split <;> simp
  · simp only [bf0]; rw [hg i h]; simp
theorem BI.step {n i0 : Nat} {s : Bf} {d : Int} {o : Nat} (h : BI n i0 s) (hd : 0 ≤ d ∧ d < s.mt.length) (ho : o < n) : BI n i0 (bfIn d s o) ∧ s.mt.length ≤ (bfIn d s o).mt.length ∧ ∀ j, j < n → 0 ≤ s.st.getD j 0 → (bfIn d s o).st.getD j 0 = s.st.getD j 0 := by
  unfold bfIn
  split
  · rename_i hlt
    have hol : o < s.st.length := by rw [h.len]; exact ho
    have hno : o ∉ s.mt := fun hm => by have := (h.iff o ho).2 hm; omega
    refine ⟨⟨by simp [h.len], fun i hi => ?_, ?_, fun i hi => ?_, fun i hi => ?_, ?_, by simp⟩, by simp, fun j hj hp => ?_⟩
    · simp only [List.mem_append, List.mem_singleton] at hi
      rcases hi with hi | rfl
      · exact h.lt i hi
      · exact ho
    · rw [List.nodup_append]
      exact ⟨h.nd, by simp, fun a ha b hb => by simp only [List.mem_singleton] at hb; subst hb; exact fun e => hno (e ▸ ha)⟩
    · simp only []
      rw [getD_set hol]
      by_cases e : o = i
      · subst e; simp; omega
      · simp only [e, if_false, List.mem_append, List.mem_singleton]
        rw [h.iff i hi]
        exact ⟨Or.inl, fun h' => h'.elim id (fun e' => absurd e'.symm e)⟩
    · simp only []
      rw [getD_set hol]
      have := h.bd i hi
      simp only [List.length_append, List.length_singleton]
      split <;> omega
    · simp only []
      rw [getD_set hol]
      have := h.hd
      rw [if_neg (fun e => by subst e; omega)]
      exact this
    · simp only []
      rw [getD_set hol, if_neg (fun e => by subst e; omega)]
  · exact ⟨h, Nat.le_refl _, fun j _ _ => rfl⟩
theorem BI.fold {n i0 : Nat} {d : Int} : ∀ (row : List Nat) {s : Bf}, BI n i0 s → 0 ≤ d ∧ d < s.mt.length → (∀ o ∈ row, o < n) → BI n i0 (row.foldl (bfIn d) s) ∧ s.mt.length ≤ (row.foldl (bfIn d) s).mt.length ∧ ∀ j, j < n → 0 ≤ s.st.getD j 0 → (row.foldl (bfIn d) s).st.getD j 0 = s.st.getD j 0
  | [], s, h, _, _ => ⟨h, Nat.le_refl _, fun _ _ _ => rfl⟩
  | o :: row, s, h, hd, hr => by
    obtain ⟨h1, h2, h3⟩ := h.step hd (hr o List.mem_cons_self)
    obtain ⟨a, b, c⟩ := BI.fold (d := d) row h1 ⟨hd.1, by omega⟩ (fun x hx => hr x (List.mem_cons_of_mem _ hx))
    refine ⟨a, by rw [List.foldl_cons]; omega, fun j hj hp => ?_⟩
    rw [List.foldl_cons, c j hj (by rw [h3 j hj hp]; exact hp), h3 j hj hp]
theorem BI.at {n i0 k i : Nat} {s : Bf} (h : BI n i0 s) (hk : s.mt[k]? = some i) : i < n ∧ 0 ≤ s.st.getD i 0 ∧ s.st.getD i 0 < s.mt.length := by
  have hm := List.mem_of_getElem? hk
  have := h.lt i hm
  exact ⟨this, (h.iff i this).2 hm, (h.bd i this).2⟩
theorem BI.row {n i0 : Nat} {adj : List (List Nat)} {s : Bf} {i : Nat} {k : Nat} (ha : AOk n adj) (h : BI n i0 s) (hi : s.mt[k]? = some i) : BI n i0 (bfRow adj s i) := by
  obtain ⟨h1, h2⟩ := h.at hi
  unfold bfRow
  refine (BI.fold (d := s.st.getD i 0) _ h h2 (fun o ho => ?_)).1
  obtain ⟨row, hr⟩ : ∃ row, adj[i]? = some row := ⟨_, List.getElem?_eq_getElem (by rw [ha.1]; exact h1)⟩
  rw [List.getD_eq_getElem?_getD, hr] at ho
  exact ((ha.2 i row hr).1 o ho).1
theorem bfGo_end {adj : List (List Nat)} : ∀ (f k : Nat) (s : Bf), s.mt.length ≤ k → bfGo adj f k s = s
  | 0, _, _, _ => rfl
  | f + 1, k, s, h => by
    simp only [bfGo]
    rw [List.getElem?_eq_none h]
theorem bfGo_step {adj : List (List Nat)} {f k i : Nat} {s : Bf} (h : s.mt[k]? = some i) : bfGo adj (f + 1) k s = bfGo adj f (k + 1) (bfRow adj s i) := by
  simp only [bfGo]
  rw [h]
theorem BI.go {n i0 : Nat} {adj : List (List Nat)} (ha : AOk n adj) : ∀ (f k : Nat) (s : Bf), BI n i0 s → BI n i0 (bfGo adj f k s)
  | 0, _, s, h => h
  | f + 1, k, s, h => by
    cases hk : s.mt[k]? with
    | none => simp only [bfGo, hk]; exact h
    | some i => rw [bfGo_step hk]; exact BI.go ha f (k + 1) _ (h.row ha hk)
theorem BI.bfs {n i : Nat} {adj : List (List Nat)} (ha : AOk n adj) (hi : i < n) : BI n i (bfs adj n i) := BI.go ha _ _ _ (BI.zero hi)
/-- How far each node is from one that is there. -/
def distL (g : Gr) (n : Nd) : List Int := if n ∈ g.ns then (bfs (adjL g) g.ns.length (plc g.ns n)).st else []
theorem distL_len {g : Gr} {n : Nd} (h : g.ok) (hn : n ∈ g.ns) : (distL g n).length = g.ns.length := by
  unfold distL
  rw [if_pos hn]
  exact (BI.bfs (AOk.of h) (plc_ok hn).2.2).len
/-- The nodes that can be reached from one, in the order in which they are met. -/
def waveL (g : Gr) (n : Nd) : List Nd := if n ∈ g.ns then (bfs (adjL g) g.ns.length (plc g.ns n)).mt.filterMap (fun i => g.ns[i]?) else []
end E
end Go.Proofs.YtpiiapoafmnhhaaGreat
/- Cores, threes, what is asked of a graph (plain). -/
namespace Go.Proofs.YtpiiapoafmnhhaaGreat
namespace E
open Go
set_option linter.unusedVariables false
/-! ### Cores -/
def stays (left : List Bool) (row : List Nat) : Nat := row.countP (fun j => left.getD j false)
def peelS (adj : List (List Nat)) (k : Nat) (s : List Bool × Bool) (i : Nat) : List Bool × Bool :=
  if s.1.getD i false = true ∧ stays s.1 (adj.getD i []) < k then (s.1.set i false, true) else s
def peelR (adj : List (List Nat)) (k : Nat) (left : List Bool) : List Bool × Bool := (List.range left.length).foldl (peelS adj k) (left, false)
def trues (left : List Bool) : Nat := left.countP id
def peelG (adj : List (List Nat)) (k : Nat) : Nat → List Bool → List Bool
  | 0, left => left
  | f + 1, left => if (peelR adj k left).2 = true then peelG adj k f (peelR adj k left).1 else (peelR adj k left).1
def peel (adj : List (List Nat)) (k : Nat) (left : List Bool) : List Bool := peelG adj k (trues left + 1) left
theorem trues_set : ∀ {left : List Bool} {i : Nat}, left.getD i false = true → trues (left.set i false) + 1 = trues left
  | [], i, h => by simp at h
  | b :: left, 0, h => by
    simp at h; subst h
    simp [trues]
  | b :: left, i + 1, h => by
    have := trues_set (left := left) (i := i) (by simpa using h)
    simp only [trues, List.set_cons_succ, List.countP_cons] at this ⊢
    omega
/-- One round: what is left is less or as it was; it turned just if it is less. -/
theorem peelS_len {adj : List (List Nat)} {k : Nat} {s : List Bool × Bool} {i : Nat} : (peelS adj k s i).1.length = s.1.length := by
  unfold peelS; split <;> simp
theorem peelS_tr {adj : List (List Nat)} {k : Nat} {s : List Bool × Bool} {i : Nat} {m : Nat} (h : trues s.1 ≤ m ∧ (s.2 = true → trues s.1 < m)) : trues (peelS adj k s i).1 ≤ m ∧ ((peelS adj k s i).2 = true → trues (peelS adj k s i).1 < m) := by
  unfold peelS
  split
  · rename_i hh
    have := trues_set hh.1
    simp only []
    omega
  · exact h
theorem peelF_len {adj : List (List Nat)} {k : Nat} : ∀ (is : List Nat) (s : List Bool × Bool), (is.foldl (peelS adj k) s).1.length = s.1.length
  | [], _ => rfl
  | i :: is, s => by rw [List.foldl_cons, peelF_len is, peelS_len]
theorem peelF_tr {adj : List (List Nat)} {k m : Nat} : ∀ (is : List Nat) (s : List Bool × Bool), (trues s.1 ≤ m ∧ (s.2 = true → trues s.1 < m)) → trues (is.foldl (peelS adj k) s).1 ≤ m ∧ ((is.foldl (peelS adj k) s).2 = true → trues (is.foldl (peelS adj k) s).1 < m)
  | [], s, h => h
  | i :: is, s, h => by rw [List.foldl_cons]; exact peelF_tr is _ (peelS_tr h)
theorem peelR_len {adj : List (List Nat)} {k : Nat} {left : List Bool} : (peelR adj k left).1.length = left.length := peelF_len _ _
theorem peelR_tr {adj : List (List Nat)} {k : Nat} {left : List Bool} : trues (peelR adj k left).1 ≤ trues left ∧ ((peelR adj k left).2 = true → trues (peelR adj k left).1 < trues left) := peelF_tr _ _ ⟨Nat.le_refl _, fun h => by cases h⟩
theorem peelG_more {adj : List (List Nat)} {k : Nat} : ∀ (f f' : Nat) (left : List Bool), trues left < f → trues left < f' → peelG adj k f left = peelG adj k f' left
  | 0, _, _, h, _ => absurd h (by omega)
  | _, 0, _, _, h => absurd h (by omega)
  | f + 1, f' + 1, left, h, h' => by
    simp only [peelG]
    split
    · rename_i ht
      have := peelR_tr.2 ht
      exact peelG_more f f' _ (by omega) (by omega)
    · rfl
theorem peel_step {adj : List (List Nat)} {k : Nat} {left : List Bool} : peel adj k left = if (peelR adj k left).2 = true then peel adj k (peelR adj k left).1 else (peelR adj k left).1 := by
  unfold peel
  show (if _ then _ else _) = _
  split
  · rename_i ht
    have := peelR_tr.2 ht
    exact peelG_more _ _ _ (by omega) (by omega)
  · rfl
/-- What holds of what is left behind each step holds behind all of them. -/
theorem peel_inv {adj : List (List Nat)} {k : Nat} (I : List Bool → Prop) (hI : ∀ s i, I s.1 → I (peelS adj k s i).1) : ∀ (m : Nat) (left : List Bool), trues left ≤ m → I left → I (peel adj k left)
  | m, left, hm, h => by
    have hF : ∀ (is : List Nat) (s : List Bool × Bool), I s.1 → I (is.foldl (peelS adj k) s).1 := by
      intro is
      induction is with
      | nil => exact fun s h => h
      | cons i is ih => intro s h; rw [List.foldl_cons]; exact ih _ (hI s i h)
    rw [peel_step]
    split
    · rename_i ht
      have := peelR_tr.2 ht
      cases m with
      | zero => omega
      | succ m => exact peel_inv I hI m _ (by omega) (hF _ _ h)
    · exact hF _ _ h
theorem peel_len {adj : List (List Nat)} {k : Nat} {left : List Bool} : (peel adj k left).length = left.length :=
  peel_inv (fun l => l.length = left.length) (fun s i h => by rw [peelS_len]; exact h) _ left (Nat.le_refl _) rfl
/-- Behind the peeling each that is left has enough that are left. -/
theorem peelF_id {adj : List (List Nat)} {k : Nat} : ∀ (is : List Nat) (s : List Bool × Bool), (is.foldl (peelS adj k) s).2 = false → (is.foldl (peelS adj k) s) = s ∧ ∀ i ∈ is, ¬ (s.1.getD i false = true ∧ stays s.1 (adj.getD i []) < k)
  | [], s, _ => ⟨rfl, by simp⟩
  | i :: is, s, h => by
    rw [List.foldl_cons] at h
    have hs : ∀ (is : List Nat) (s : List Bool × Bool), s.2 = true → (is.foldl (peelS adj k) s).2 = true := by
      intro is
      induction is with
      | nil => exact fun s h => h
      | cons i is ih =>
        intro s h
        rw [List.foldl_cons]
        refine ih _ ?_
        unfold peelS; split
        · rfl
        · exact h
    by_cases hh : s.1.getD i false = true ∧ stays s.1 (adj.getD i []) < k
    · have e : (peelS adj k s i).2 = true := by unfold peelS; rw [if_pos hh]
      rw [hs is _ e] at h; cases h
    · have e : peelS adj k s i = s := by unfold peelS; rw [if_neg hh]
      rw [e] at h
      obtain ⟨a, b⟩ := peelF_id is s h
      rw [List.foldl_cons, e]
      refine ⟨a, fun j hj => ?_⟩
      rcases List.mem_cons.1 hj with rfl | hj
      · exact hh
      · exact b j hj
theorem peel_fix {adj : List (List Nat)} {k : Nat} : ∀ (m : Nat) (left : List Bool), trues left ≤ m → ∀ i, i < left.length → (peel adj k left).getD i false = true → k ≤ stays (peel adj k left) (adj.getD i [])
  | m, left, hm, i, hi, ht => by
    by_cases hr : (peelR adj k left).2 = true
    · have hp : peel adj k left = peel adj k (peelR adj k left).1 := by rw [peel_step, if_pos hr]
      have := peelR_tr.2 hr
      rw [hp] at ht ⊢
      cases m with
      | zero => omega
      | succ m => exact peel_fix m _ (by omega) i (by rw [peelR_len]; exact hi) ht
    · have hp : peel adj k left = (peelR adj k left).1 := by rw [peel_step, if_neg hr]
      have hf := peelF_id (adj := adj) (k := k) (List.range left.length) (left, false) (by simpa [peelR] using hr)
      have e : (peelR adj k left).1 = left := by unfold peelR; rw [hf.1]
      rw [hp, e] at ht ⊢
      have := hf.2 i (List.mem_range.2 hi)
      simp only [ht, true_and] at this
      omega
theorem stays_le {left : List Bool} {row : List Nat} : stays left row ≤ row.length := List.countP_le_length
theorem trues_zero {left : List Bool} (h : trues left = 0) (i : Nat) : left.getD i false = false := by
  cases hb : left.getD i false with
  | false => rfl
  | true => have := trues_set hb; omega
/-- Where nothing is left nothing comes. -/
theorem peel_none {adj : List (List Nat)} {k : Nat} {left : List Bool} (h : trues left = 0) : peel adj k left = left := by
  have hF : ∀ (is : List Nat), is.foldl (peelS adj k) (left, false) = (left, false) := by
    intro is
    induction is with
    | nil => rfl
    | cons i is ih =>
      rw [List.foldl_cons]
      have : peelS adj k (left, false) i = (left, false) := by
        unfold peelS
        rw [if_neg (by simp only [trues_zero h i]; simp)]
      rw [this, ih]
  rw [peel_step]
  unfold peelR
  rw [hF]
  simp
def coreM (left : List Bool) (out : List Int) (k : Nat) : List Int := (List.range out.length).map (fun i => if left.getD i false = true then (k : Int) else out.getD i 0)
/-- Rounds from k on (f of them). -/
def coreG (adj : List (List Nat)) : Nat → Nat → List Bool → List Int → List Int
  | 0, _, _, out => out
  | f + 1, k, left, out => coreG adj f (k + 1) (peel adj k left) (coreM (peel adj k left) out k)
def coreL (adj : List (List Nat)) (n : Nat) : List Int := coreG adj (n - 1) 1 (List.replicate n true) (List.replicate n 0)
theorem coreM_none {left : List Bool} {out : List Int} {k : Nat} (h : trues left = 0) : coreM left out k = out := by
  apply List.ext_getElem
  · simp [coreM]
  · intro i h1 h2
    simp only [coreM, List.getElem_map, List.getElem_range, trues_zero h]
    simp [List.getD_eq_getElem?_getD, h2]
theorem coreG_none {adj : List (List Nat)} : ∀ (f k : Nat) (left : List Bool) (out : List Int), trues left = 0 → coreG adj f k left out = out
  | 0, _, _, _, _ => rfl
  | f + 1, k, left, out, h => by
    simp only [coreG]
    rw [peel_none h, coreM_none h]
    exact coreG_none f (k + 1) left out h
/-- Where as many rounds as nodes are over nothing is left. -/
theorem peel_n {n : Nat} {adj : List (List Nat)} (ha : AOk n adj) {k : Nat} (hk : n ≤ k) {left : List Bool} (hl : left.length = n) : trues (peel adj k left) = 0 := by
  rcases Nat.eq_zero_or_pos (trues (peel adj k left)) with h | h
  · exact h
  · obtain ⟨b, hb, hbt⟩ := List.countP_pos_iff.1 h
    obtain ⟨i, hi⟩ := List.getElem?_of_mem hb
    simp only [id] at hbt
    subst hbt
    have hi' : i < n := by rw [← hl, ← peel_len (adj := adj) (k := k)]; exact (List.getElem?_eq_some_iff.1 hi).1
    have h1 := peel_fix (adj := adj) (k := k) _ left (Nat.le_refl _) i (by omega) (by simp [List.getD_eq_getElem?_getD, hi])
    obtain ⟨row, hr⟩ : ∃ row, adj[i]? = some row := ⟨_, List.getElem?_eq_getElem (by rw [ha.1]; exact hi')⟩
    have h2 := ha.2 i row hr
    have h3 := row_len h2.1 h2.2 hi'
    have h4 : adj.getD i [] = row := by simp [List.getD_eq_getElem?_getD, hr]
    rw [h4] at h1
    have := stays_le (left := peel adj k left) (row := row)
    omega
/-! ### Threes -/
/-- As the program counts them: with a first, those above it among its row, and those above that one. -/
def three1 (adj : List (List Nat)) (a b : Nat) : Nat := (adj.getD b []).countP (fun c => decide (b < c) && decide (c ∈ adj.getD a []))
def threeR (adj : List (List Nat)) (a : Nat) (row : List Nat) : Nat := (row.map (fun b => if b < a then 0 else three1 adj a b)).sum
def threesL (adj : List (List Nat)) : Nat := ((List.range adj.length).map (fun a => threeR adj a (adj.getD a []))).sum
/-- As the reference counts them: two of the row, the second behind the first. -/
def pairs1 (adj : List (List Nat)) (a : Nat) : List Nat → Nat
  | [] => 0
  | x :: row => (if a < x then row.countP (fun y => decide (y ∈ adj.getD x [])) else 0) + pairs1 adj a row
theorem countP_comm : ∀ (xs ys : List Nat), xs.Nodup → ys.Nodup → xs.countP (fun x => decide (x ∈ ys)) = ys.countP (fun y => decide (y ∈ xs))
  | [], ys, _, _ => by simp
  | x :: xs, ys, hx, hy => by
    obtain ⟨h1, h2⟩ := List.nodup_cons.1 hx
    have ih := countP_comm xs ys h2 hy
    rw [List.countP_cons, ih]
    have e : ys.countP (fun y => decide (y ∈ x :: xs)) = ys.countP (fun y => decide (y ∈ xs)) + ys.countP (fun y => decide (y = x)) := by
      clear ih hy
      induction ys with
      | nil => rfl
      | cons y ys ih =>
        simp only [List.countP_cons, ih]
        by_cases h : y = x
        · subst h; simp [h1]; omega
        · simp [h]; omega
    rw [e]
    congr 1
    have hc : ys.countP (fun y => decide (y = x)) = ys.count x := by
      unfold List.count
      apply List.countP_congr
      intro y _; simp
    rw [hc]
    by_cases hm : x ∈ ys
    · simp [hm, hy.count]
    · simp [hm, List.count_eq_zero_of_not_mem hm]
theorem pairs_eq {adj : List (List Nat)} {a : Nat} {all : List Nat} : ∀ (pre row : List Nat), pre ++ row = all → all.Pairwise (· < ·) → (∀ x ∈ all, (adj.getD x []).Pairwise (· < ·)) → adj.getD a [] = all → a ∉ all → pairs1 adj a row = threeR adj a row
  | pre, [], _, _, _, _, _ => rfl
  | pre, x :: row, he, hp, hs, ha, hna => by
    have ih := pairs_eq (adj := adj) (a := a) (pre ++ [x]) row (by simp [he]) hp hs ha hna
    have hxm : x ∈ all := by rw [← he]; simp
    have hxa : x ≠ a := fun e => hna (e ▸ hxm)
    unfold threeR
    simp only [pairs1, List.map_cons, List.sum_cons]
    rw [ih]
    unfold threeR
    congr 1
    by_cases h : a < x
    · rw [if_pos h, if_neg (by omega)]
      unfold three1
      have hsx := hs x hxm
      have hp' : (x :: row).Pairwise (· < ·) := by
        rw [← he] at hp
        exact (List.pairwise_append.1 hp).2.1
      obtain ⟨hx1, hx2⟩ := List.pairwise_cons.1 hp'
      have hpre : ∀ y ∈ pre, y < x := fun y hy => by
        rw [← he] at hp
        exact (List.pairwise_append.1 hp).2.2 y hy x List.mem_cons_self
      have e1 : (adj.getD x []).countP (fun c => decide (x < c) && decide (c ∈ adj.getD a [])) = (adj.getD x []).countP (fun c => decide (c ∈ row)) := by
        apply List.countP_congr
        intro c _
        rw [ha, ← he]
        simp only [Bool.and_eq_true, decide_eq_true_eq, List.mem_append, List.mem_cons]
        constructor
        · rintro ⟨h1, h2 | h2 | h2⟩
          · have := hpre c h2; omega
          · omega
          · exact h2
        · intro h1
          exact ⟨hx1 c h1, Or.inr (Or.inr h1)⟩
      rw [e1]
      exact countP_comm _ _ (hx2.imp (fun h e => by omega)) (hsx.imp (fun h e => by omega))
    · rw [if_neg h, if_pos (by omega)]
theorem threes_eq {n : Nat} {adj : List (List Nat)} (ha : AOk n adj) {a : Nat} {row : List Nat} (hr : adj[a]? = some row) : pairs1 adj a row = threeR adj a row := by
  have h := ha.2 a row hr
  have hg : adj.getD a [] = row := by simp [List.getD_eq_getElem?_getD, hr]
  refine pairs_eq (all := row) [] row rfl h.2 (fun x hx => ?_) hg (fun hm => (h.1 a hm).2 rfl)
  obtain ⟨r, hr'⟩ : ∃ r, adj[x]? = some r := ⟨_, List.getElem?_eq_getElem (by rw [ha.1]; exact (h.1 x hx).1)⟩
  rw [List.getD_eq_getElem?_getD, hr']
  exact (ha.2 x r hr').2
/-! ### What is asked of a graph -/
def qok (q : Qu) : Bool := if q.k = 1 ∨ q.k = 2 then nok q.n else if q.k = 3 ∨ q.k = 4 then decide (q.n = ⟨0, 0⟩) else false
/-- Of a right graph, and what can be asked. -/
def askG (g : Gr) (q : Qu) : List Int :=
  if q.k = 1 then (nearL g.es q.n).map cd
  else if q.k = 2 then distL g q.n
  else if q.k = 3 then coreL (adjL g) g.ns.length
  else [(threesL (adjL g) : Int)]
def askL (g : Gr) (q : Qu) : List Int := if g.ok ∧ qok q = true then askG g q else []
theorem coreG_len {adj : List (List Nat)} : ∀ (f k : Nat) (left : List Bool) (out : List Int), (coreG adj f k left out).length = out.length
  | 0, _, _, _ => rfl
  | f + 1, k, left, out => by
    simp only [coreG]
    rw [coreG_len f]
    simp [coreM]
theorem coreL_len {adj : List (List Nat)} {n : Nat} : (coreL adj n).length = n := by unfold coreL; rw [coreG_len]; simp
end E
end Go.Proofs.YtpiiapoafmnhhaaGreat
/- Numbers, rows and labels as bytes (plain). -/
namespace Go.Proofs.YtpiiapoafmnhhaaGreat
namespace E
open Go
set_option linter.unusedVariables false
/-! ### Numbers and rows as bytes -/
def numB (n : Int) : List Nat := if n < 0 ∨ 16383 < n then [] else if n < 128 then [n.toNat] else [128 + n.toNat / 128, n.toNat % 128]
def numA (s : List Nat) (p : Nat) : Option (Nat × Nat) := match s[p]? with
  | none => none
  | some a => if a < 128 then some (a, p + 1) else match s[p + 1]? with
    | none => none
    | some b => if a = 128 ∨ 127 < b then none else some ((a - 128) * 128 + b, p + 2)
def up (list : List Int) : Prop := (∀ x ∈ list, 0 ≤ x ∧ x ≤ 16383) ∧ list.Pairwise (· < ·) ∧ list.length ≤ 127
instance (list : List Int) : Decidable (up list) := by unfold up; exact inferInstance
def gapB : Int → List Int → List Nat
  | _, [] => []
  | last, x :: xs => numB (x - last - 1) ++ gapB x xs
def rowB (list : List Int) : List Nat := if up list then numB list.length ++ gapB (-1) list else []
def gapA (s : List Nat) : Nat → Int → Nat → Option (List Int × Nat)
  | 0, _, p => some ([], p)
  | n + 1, last, p => match numA s p with
    | none => none
    | some (g, nx) => if 16383 < last + 1 + g then none else (gapA s n (last + 1 + g) nx).map (fun r => ((last + 1 + g) :: r.1, r.2))
def rowA (s : List Nat) (p : Nat) : Option (List Int × Nat) := match numA s p with
  | none => none
  | some (n, nx) => if 127 < n then none else gapA s n (-1) nx
theorem get_app {α : Type} {a b : List α} {x : α} {rest : List α} (h : b = x :: rest) : (a ++ b)[a.length]? = some x := by subst h; simp
theorem numA_at {s pre post : List Nat} {n : Int} (h : 0 ≤ n ∧ n ≤ 16383) (hs : s = pre ++ (numB n ++ post)) : numA s pre.length = some (n.toNat, pre.length + (numB n).length) := by
  subst hs
  unfold numB
  rw [if_neg (by omega)]
  by_cases h1 : n < 128
  · rw [if_pos h1]
    have e0 : (pre ++ ([n.toNat] ++ post))[pre.length]? = some n.toNat := get_app rfl
    unfold numA
    rw [e0]
    simp only []
    rw [if_pos (by omega)]
    simp
  · rw [if_neg h1]
    have e0 : (pre ++ ([128 + n.toNat / 128, n.toNat % 128] ++ post))[pre.length]? = some (128 + n.toNat / 128) := get_app rfl
    unfold numA
    rw [e0]
    simp only []
    rw [if_neg (by omega)]
    have e : (pre ++ ([128 + n.toNat / 128, n.toNat % 128] ++ post))[pre.length + 1]? = some (n.toNat % 128) := by
      rw [List.getElem?_append_right (by omega)]
      simp
    rw [e]
    simp only []
    rw [if_neg (by omega)]
    simp
    omega
theorem numB_pos {n : Int} (h : 0 ≤ n ∧ n ≤ 16383) : 1 ≤ (numB n).length ∧ (numB n).length ≤ 2 := by
  unfold numB
  rw [if_neg (by omega)]
  split <;> simp
theorem numB_le (n : Int) : (numB n).length ≤ 2 := by
  unfold numB
  split
  · simp
  · split <;> simp
theorem numB_byte (n : Int) : ∀ b ∈ numB n, b < 256 := by
  unfold numB
  split
  · simp
  · split
    · simp; omega
    · simp; omega
theorem gapA_at : ∀ (list : List Int) (last : Int) (s pre post : List Nat), -1 ≤ last → (∀ x ∈ list, last < x ∧ x ≤ 16383) → list.Pairwise (· < ·) → s = pre ++ (gapB last list ++ post) → gapA s list.length last pre.length = some (list, pre.length + (gapB last list).length)
  | [], last, s, pre, post, _, _, _, hs => by simp [gapA, gapB]
  | x :: xs, last, s, pre, post, hl, hb, hp, hs => by
    obtain ⟨h1, h2⟩ := List.pairwise_cons.1 hp
    have hx := hb x List.mem_cons_self
    simp only [gapB] at hs
    rw [List.append_assoc] at hs
    have hn := numA_at (n := x - last - 1) (by omega) hs
    simp only [List.length_cons, gapA, hn]
    have e : last + 1 + ((x - last - 1).toNat : Int) = x := by omega
    rw [e, if_neg (by omega)]
    have ih := gapA_at xs x s (pre ++ numB (x - last - 1)) post (by omega) (fun y hy => ⟨h1 y hy, (hb y (List.mem_cons_of_mem _ hy)).2⟩) h2 (by rw [hs, List.append_assoc])
    rw [List.length_append] at ih
    rw [ih]
    simp [gapB]
    omega
theorem rowA_at {s pre post : List Nat} {list : List Int} (h : up list) (hs : s = pre ++ (rowB list ++ post)) : rowA s pre.length = some (list, pre.length + (rowB list).length) := by
  obtain ⟨h1, h2, h3⟩ := h
  have hr : rowB list = numB list.length ++ gapB (-1) list := by unfold rowB; rw [if_pos ⟨h1, h2, h3⟩]
  rw [hr, List.append_assoc] at hs
  have hn := numA_at (n := list.length) (by omega) hs
  unfold rowA
  rw [hn]
  simp only [Int.toNat_natCast]
  rw [if_neg (by omega)]
  have := gapA_at list (-1) s (pre ++ numB list.length) post (by omega) (fun x hx => by have := h1 x hx; omega) h2 (by rw [hs, List.append_assoc])
  rw [List.length_append] at this
  rw [this, hr]
  simp
  omega
theorem gapB_byte : ∀ (last : Int) (list : List Int), ∀ b ∈ gapB last list, b < 256
  | _, [], b, h => by simp [gapB] at h
  | last, x :: xs, b, h => by
    simp only [gapB, List.mem_append] at h
    rcases h with h | h
    · exact numB_byte _ b h
    · exact gapB_byte x xs b h
theorem rowB_byte (list : List Int) : ∀ b ∈ rowB list, b < 256 := by
  unfold rowB
  split
  · intro b h
    rcases List.mem_append.1 h with h | h
    · exact numB_byte _ b h
    · exact gapB_byte _ _ b h
  · simp
theorem gapB_le : ∀ (last : Int) (list : List Int), (gapB last list).length ≤ 2 * list.length
  | _, [] => by simp [gapB]
  | last, x :: xs => by
    have := numB_le (x - last - 1)
    have := gapB_le x xs
    simp only [gapB, List.length_append, List.length_cons]
    omega
theorem rowB_le (list : List Int) : (rowB list).length ≤ 2 * list.length + 2 := by
  unfold rowB
  split
  · have := gapB_le (-1) list
    have := numB_le list.length
    rw [List.length_append]
    omega
  · simp
theorem rowB_pos {list : List Int} (h : up list) : 0 < (rowB list).length := by
  unfold rowB
  rw [if_pos h, List.length_append]
  have := (numB_pos (n := list.length) ⟨by omega, by have := h.2.2; omega⟩).1
  omega
/-! ### What there is of a label, as bytes -/
structure Rw where
  code : Int
  jn : List Int
  fr : Nat
  to : Nat
  deriving DecidableEq
structure Cls where
  nums : List Int
  hd : Nat
  rows : List Rw
def rowsA (s : List Nat) : Nat → Nat → Option (List Rw × Nat)
  | 0, p => some ([], p)
  | n + 1, p => match numA s p with
    | none => none
    | some (c, p1) => match rowA s p1 with
      | none => none
      | some (row, p2) => (rowsA s n p2).map (fun r => (⟨c, row, p, p2⟩ :: r.1, r.2))
def clsA (s : List Nat) : Option Cls := match rowA s 0 with
  | none => none
  | some (nums, h) => match numA s h with
    | none => none
    | some (n, p) => match rowsA s n p with
      | none => none
      | some (rows, q) => if q = s.length then some ⟨nums, h, rows⟩ else none
def onlyE (es : List Eg) (a : Int) : List Eg := es.filter (fun e => decide (e.l = a))
def endS (acc : List Nd) (e : Eg) : List Nd := addN (addN acc e.a) e.b
def endN (es : List Eg) : List Nd := es.foldl endS []
def numsL (ns : List Nd) (a : Int) : List Int := (ns.filter (fun x => decide (x.l = a))).map (fun x => x.n)
def jnL (es : List Eg) (n : Nd) : List Int := (nearL es n).map cd
def rowBy (es : List Eg) (n : Nd) : List Nat := numB (cd n) ++ rowB (jnL es n)
def segB (g : Gr) (a : Int) : List Nat :=
  if numsL g.ns a = [] ∧ endN (onlyE g.es a) = [] then [] else rowB (numsL g.ns a) ++ (numB (endN (onlyE g.es a)).length ++ (endN (onlyE g.es a)).flatMap (rowBy (onlyE g.es a)))
def rowPos (es : List Eg) : Nat → List Nd → List Rw
  | _, [] => []
  | p, n :: ns => ⟨cd n, jnL es n, p, p + (rowBy es n).length⟩ :: rowPos es (p + (rowBy es n).length) ns
def clsG (g : Gr) (a : Int) : Cls := ⟨numsL g.ns a, (rowB (numsL g.ns a)).length, rowPos (onlyE g.es a) ((rowB (numsL g.ns a)).length + (numB (endN (onlyE g.es a)).length).length) (endN (onlyE g.es a))⟩
theorem mem_endF : ∀ (es : List Eg) (acc : List Nd) (x : Nd), x ∈ es.foldl endS acc ↔ x ∈ acc ∨ ∃ e ∈ es, x = e.a ∨ x = e.b
  | [], acc, x => by simp
  | e :: es, acc, x => by
    rw [List.foldl_cons, mem_endF es]
    simp only [endS, mem_addN, List.mem_cons]
    constructor
    · rintro ((h | h | h) | ⟨e', h1, h2⟩)
      · exact Or.inr ⟨e, Or.inl rfl, Or.inr h⟩
      · exact Or.inr ⟨e, Or.inl rfl, Or.inl h⟩
      · exact Or.inl h
      · exact Or.inr ⟨e', Or.inr h1, h2⟩
    · rintro (h | ⟨e', h1 | h1, h2⟩)
      · exact Or.inl (Or.inr (Or.inr h))
      · subst h1
        rcases h2 with h2 | h2
        · exact Or.inl (Or.inr (Or.inl h2))
        · exact Or.inl (Or.inl h2)
      · exact Or.inr ⟨e', h1, h2⟩
theorem mem_endN {es : List Eg} {x : Nd} : x ∈ endN es ↔ ∃ e ∈ es, x = e.a ∨ x = e.b := by unfold endN; rw [mem_endF]; simp
theorem ord_endF : ∀ (es : List Eg) (acc : List Nd), (∀ e ∈ es, eok e = true) → Ord acc → Ord (es.foldl endS acc)
  | [], _, _, h => h
  | e :: es, acc, he, h => by
    obtain ⟨p1, p2, p3, _⟩ := eok_parts (he e List.mem_cons_self)
    rw [List.foldl_cons]
    exact ord_endF es _ (fun x hx => he x (List.mem_cons_of_mem _ hx)) ((h.addN p2).addN p3)
theorem ord_endN {es : List Eg} (h : ∀ e ∈ es, eok e = true) : Ord (endN es) := ord_endF es [] h ⟨by simp, by simp⟩
theorem len_addN (acc : List Nd) (m : Nd) : (addN acc m).length ≤ acc.length + 1 := by
  unfold addN
  split
  · omega
  · have := count_ins (fun _ => true) (fun x => decide (cd x < cd m)) acc m
    simp only [List.countP_true, if_true] at this
    unfold insN
    omega
theorem len_endF : ∀ (es : List Eg) (acc : List Nd), (es.foldl endS acc).length ≤ acc.length + 2 * es.length
  | [], acc => by simp
  | e :: es, acc => by
    have h1 := len_endF es (endS acc e)
    have h2 := len_addN (addN acc e.a) e.b
    have h3 := len_addN acc e.a
    rw [List.foldl_cons]
    simp only [endS, List.length_cons] at *
    omega
theorem len_endN (es : List Eg) : (endN es).length ≤ 2 * es.length := by have := len_endF es []; simpa [endN] using this
theorem onlyE_len {g : Gr} (h : g.ok) {a : Int} (ha : lok a = true) : (onlyE g.es a).length ≤ 7 := by
  have := h.2.2.2 a (mem_labs.2 (lok_iff.1 ha))
  rw [List.countP_eq_length_filter] at this
  exact this
theorem onlyE_eok {g : Gr} (h : g.ok) {a : Int} : ∀ e ∈ onlyE g.es a, eok e = true := fun e he => (h.2.1 e (List.mem_filter.1 he).1).1
theorem nums_len {g : Gr} (h : g.ok) {a : Int} (ha : lok a = true) : (numsL g.ns a).length ≤ 5 := by
  have := h.1.2.2 a (mem_labs.2 (lok_iff.1 ha))
  rw [List.countP_eq_length_filter] at this
  simpa [numsL] using this
theorem up_nums {g : Gr} (h : g.ok) {a : Int} (ha : lok a = true) : up (numsL g.ns a) := by
  refine ⟨fun x hx => ?_, ?_, by have := nums_len h ha; omega⟩
  · obtain ⟨n, hn, rfl⟩ := List.mem_map.1 hx
    have := nok_iff.1 (h.1.1 n (List.mem_filter.1 hn).1)
    omega
  · unfold numsL
    rw [List.pairwise_map]
    refine (h.1.2.1.filter _).imp_of_mem (fun {x y} hx hy hxy => ?_)
    simp only [List.mem_filter, decide_eq_true_eq] at hx hy
    rw [cd_ok (h.1.1 x hx.1), cd_ok (h.1.1 y hy.1)] at hxy
    omega
theorem up_jn {es : List Eg} (h : ∀ e ∈ es, eok e = true) {n : Nd} (hl : es.length ≤ 100) : up (jnL es n) := by
  have ho := ord_nearL (n := n) h
  refine ⟨fun x hx => ?_, ?_, ?_⟩
  · obtain ⟨m, hm, rfl⟩ := List.mem_map.1 hx
    have := cd_bd (ho.1 m hm)
    omega
  · unfold jnL
    rw [List.pairwise_map]
    exact ho.2
  · have : ∀ (es : List Eg) (acc : List Nd), (es.foldl (nearS n) acc).length ≤ acc.length + es.length := by
      intro es
      induction es with
      | nil => simp
      | cons e es ih =>
        intro acc
        have h1 := ih (nearS n acc e)
        have h2 : (nearS n acc e).length ≤ acc.length + 1 := by
          unfold nearS
          split
          · exact len_addN _ _
          · omega
        simp only [List.foldl_cons, List.length_cons]
        omega
    have := this es []
    simp only [jnL, List.length_map, nearL]
    simp at this
    omega
theorem rowsA_at {es : List Eg} (he : ∀ e ∈ es, eok e = true) (hl : es.length ≤ 100) : ∀ (ns : List Nd) (s pre post : List Nat), (∀ n ∈ ns, nok n = true) → s = pre ++ (ns.flatMap (rowBy es) ++ post) → rowsA s ns.length pre.length = some (rowPos es pre.length ns, pre.length + (ns.flatMap (rowBy es)).length)
  | [], s, pre, post, _, hs => by simp [rowsA, rowPos]
  | n :: ns, s, pre, post, hn, hs => by
    have hb := cd_bd (hn n List.mem_cons_self)
    simp only [List.flatMap_cons, List.append_assoc] at hs
    have h1 : s = pre ++ (numB (cd n) ++ (rowB (jnL es n) ++ (ns.flatMap (rowBy es) ++ post))) := by rw [hs]; simp [rowBy]
    have hA := numA_at (n := cd n) (by omega) h1
    have hR := rowA_at (pre := pre ++ numB (cd n)) (post := ns.flatMap (rowBy es) ++ post) (up_jn he (n := n) hl) (h1.trans (by rw [List.append_assoc]))
    have ih := rowsA_at he hl ns s (pre ++ rowBy es n) post (fun x hx => hn x (List.mem_cons_of_mem _ hx)) (by rw [hs, List.append_assoc])
    simp only [List.length_cons, rowsA, hA]
    rw [List.length_append] at hR
    rw [hR]
    simp only []
    have e : pre.length + (numB (cd n)).length + (rowB (jnL es n)).length = pre.length + (rowBy es n).length := by simp [rowBy]; omega
    rw [List.length_append] at ih
    have hcd : ((cd n).toNat : Int) = cd n := Int.toNat_of_nonneg hb.1
    rw [e, ih, hcd]
    simp only [Option.map_some, rowPos, List.length_append, List.flatMap_cons, Nat.add_assoc]
theorem clsA_seg {g : Gr} (h : g.ok) {a : Int} (ha : lok a = true) (hne : segB g a ≠ []) : clsA (segB g a) = some (clsG g a) := by
  have hseg : segB g a = rowB (numsL g.ns a) ++ (numB (endN (onlyE g.es a)).length ++ (endN (onlyE g.es a)).flatMap (rowBy (onlyE g.es a))) := by
    unfold segB at hne ⊢
    split
    · rename_i hh; rw [if_pos hh] at hne; exact absurd rfl hne
    · rfl
  have hl := onlyE_len h ha
  have hel := len_endN (onlyE g.es a)
  have h1 := rowA_at (s := segB g a) (pre := []) (up_nums h ha) (by rw [hseg]; rfl)
  have h2 := numA_at (s := segB g a) (pre := rowB (numsL g.ns a)) (n := (endN (onlyE g.es a)).length) (by omega) hseg
  have h3 := rowsA_at (es := onlyE g.es a) (onlyE_eok h) (by omega) (endN (onlyE g.es a)) (segB g a) (rowB (numsL g.ns a) ++ numB (endN (onlyE g.es a)).length) [] (fun n hn => (ord_endN (onlyE_eok h)).1 n hn) (by rw [hseg]; simp)
  unfold clsA
  simp only [List.length_nil, Nat.zero_add] at h1
  rw [h1]
  simp only []
  rw [h2]
  simp only [Int.toNat_natCast]
  rw [List.length_append] at h3
  rw [h3]
  simp only []
  rw [if_pos (by rw [hseg]; simp; omega)]
  rfl
theorem segB_byte (g : Gr) (a : Int) : ∀ b ∈ segB g a, b < 256 := by
  unfold segB
  split
  · simp
  · intro b hb
    simp only [List.mem_append, List.mem_flatMap] at hb
    rcases hb with hb | hb | ⟨n, _, hb⟩
    · exact rowB_byte _ b hb
    · exact numB_byte _ b hb
    · unfold rowBy at hb
      rcases List.mem_append.1 hb with hb | hb
      · exact numB_byte _ b hb
      · exact rowB_byte _ b hb
end E
end Go.Proofs.YtpiiapoafmnhhaaGreat
