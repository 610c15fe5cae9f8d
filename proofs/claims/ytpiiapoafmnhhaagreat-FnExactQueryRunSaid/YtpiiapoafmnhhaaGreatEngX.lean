/- The engine, fifth part: regions that draw their order of evaluation. -/
import Derived.Test.YtpiiapoafmnhhaaGreatEngC
import Derived.Deep.RegionHeld3
namespace Go.Proofs.YtpiiapoafmnhhaaGreat
namespace E
set_option linter.unusedSimpArgs false
set_option linter.unusedVariables false
open Go Go.RowKit

section
variable {P : Program} {N : Nat} {w0 : World} {K K' Kp : List Ck} {F F' : List (Nat × En)} {Q : Exit → Act → World → Prop} {ops : Array Oper} {rest : List Oper} {d : Nat}

theorem KOk.drew {w : World} (h : KOk w0 K w) : KOk w0 K { w with drawn := w.drawn + 1 } := h.ext ⟨rfl, rfl, rfl, Nat.le_refl _, fun _ _ => rfl⟩

/-! ### All operations leave the chunks alone, and each has one value -/
def HQ (P : Program) (N : Nat) (w0 : World) (K : List Ck) (ops : Array Oper) (Q : Exit → Act → World → Prop) (l : List Oper) (F : List (Nat × En)) : Prop :=
  ∀ a, FrOk N F a → wpQuiet P ops (KOk w0 K) (fun a' => ∀ w', KOk w0 K w' → Q .normal a' w') l a
theorem hq_nil (h : At N w0 (Q .normal) F K) : HQ P N w0 K ops Q [] F := fun a ha w hw => h a w ha hw
theorem hq_q {o : Oper} {v : Value} (hg : o.guard = none) (hd : o.dst = some d) (hN : d < N) (hy : Y P N w0 K F true o v) (hr : HQ P N w0 K ops Q rest ((d, .pl v) :: F)) : HQ P N w0 K ops Q (o :: rest) F := fun a ha => by
  unfold wpQuiet
  rw [if_pos (by simp [Region.wanted, hg])]
  refine ⟨v, fun w hw => hy a w ha rfl hw, ?_⟩
  rw [hd]
  exact hr _ (ha.put d (.pl v) v hN rfl)
theorem hq_g {o : Oper} {v : Value} {j : Nat} {want c : Bool} (hg : o.guard = some (j, want)) (hG : GV N F ops j want c) (hd : o.dst = some d) (hN : d < N) (hy : Y P N w0 K F c o v) (hr : HQ P N w0 K ops Q rest ((d, .gd c v) :: F)) : HQ P N w0 K ops Q (o :: rest) F := fun a ha => by
  have hwant : Region.wanted o (yielded ops a.tmps) = c := by simp only [Region.wanted, hg]; exact hG a ha
  unfold wpQuiet
  rw [hwant]
  cases c with
  | true =>
    rw [if_pos rfl]
    exact ⟨v, fun w hw => hy a w ha rfl hw, by rw [hd]; exact hr _ (ha.put d (.gd true v) v hN rfl)⟩
  | false =>
    rw [if_neg (by simp), hd]
    exact hr _ (ha.put d (.gd false v) undef hN rfl)
theorem hq_v {o : Oper} {v : Value} (hg : o.guard = none) (hd : o.dst = some d) (hN : d < N) (hy : YV P N w0 K F true o v) (hr : HQ P N w0 K ops Q rest ((d, .pl v) :: F)) : HQ P N w0 K ops Q (o :: rest) F := hq_q hg hd hN hy.y hr
theorem hq_gv {o : Oper} {v : Value} {j : Nat} {want c : Bool} (hg : o.guard = some (j, want)) (hG : GV N F ops j want c) (hd : o.dst = some d) (hN : d < N) (hy : YV P N w0 K F c o v) (hr : HQ P N w0 K ops Q rest ((d, .gd c v) :: F)) : HQ P N w0 K ops Q (o :: rest) F := hq_g hg hG hd hN hy.y hr
theorem hc_quiet {i : Nat} {l : List Oper} (hm : P.follows .mixedOrders = true) (hB : Region.lexB .any l.toArray = true) (h : HQ P N w0 K l.toArray Q l F) : HC P N w0 (.region i l.toArray true) Q F K := fun a w ha hw =>
  wp_region_quiet (C := KOk w0 K) hm hB hw.drew (by simpa using h a ha)

/-! ### Some operations make or write memory; up to the operation 's' the condition T holds -/
def wpAnyS (P : Program) (md : Region.Mode) (ops : Array Oper) (Q : Exit → Act → World → Prop) (s : Nat) (T : World → Prop) : Nat → Array Bool → Act → World → Prop
  | 0, listed, a, w => Region.ready md ops listed = [] ∧ Q .normal a w
  | fuel + 1, listed, a, w =>
    (Region.ready md ops listed = [] → Q .normal a w) ∧
    ∀ i ∈ Region.ready md ops listed, wpOp P ops Q i (fun a' w' => ((listed.setIfInBounds i true).getD s false = false → T w') ∧ wpAnyS P md ops Q s T fuel (listed.setIfInBounds i true) a' w') a w

theorem wpAny_of_S {md : Region.Mode} {s : Nat} {T : World → Prop} : ∀ (fuel : Nat) (listed : Array Bool) (a : Act) (w : World), wpAnyS P md ops Q s T fuel listed a w → wpAny P md ops Q fuel listed a w
  | 0, _, _, _, h => h
  | fuel + 1, _, _, _, h => ⟨h.1, fun i hi => wpOp_mono (fun a' w' h' => wpAny_of_S fuel _ a' w' h'.2) (h.2 i hi)⟩

theorem wpAnyS_first {md : Region.Mode} {s : Nat} {T : World → Prop} {i : Nat} {oi : Oper} {v : Value} (hi : ops[i]? = some oi) (hsel : ∀ (j : Nat) (o : Oper) cs b, ops[j]? = some o → o.op ≠ .select cs b)
    (hQ : ∀ c a w, Q (.panic c) (a.put oi.dst v) w → Q (.panic c) a w) (his : i ≠ s) (hsi : ∀ os, ops[s]? = some os → ∃ e ∈ os.after, Region.binds md e = true ∧ e.on = i) :
    ∀ (fuel : Nat) (listed : Array Bool) (a : Act) (w : World),
      (∀ j oj, ops[j]? = some oj → j ≠ i → listed.getD j true = false → (∀ e ∈ oj.after, Region.binds md e = true → e.on ≠ i) → oi.apart ops oj = true) →
      i ∈ Region.ready md ops listed → listed.getD s false = false → YieldsIf P ops T oi v a → T w →
      wpAnyS P md ops Q s T fuel (listed.setIfInBounds i true) (a.put oi.dst v) w → wpAnyS P md ops Q s T (fuel + 1) listed a w := by
  intro fuel
  induction fuel with
  | zero =>
    intro listed a w _ hr hls hy hS H
    refine ⟨fun h => (by rw [h] at hr; cases hr), fun j hj => ?_⟩
    by_cases hji : j = i
    · subst hji; exact hy.wpOp hi hS ⟨fun _ => hS, H⟩
    · have := ready_mono hj hji
      rw [H.1] at this
      cases this
  | succ fuel ih =>
    intro listed a w hfree hr hls hy hS H
    refine ⟨fun h => (by rw [h] at hr; cases hr), fun j hj => ?_⟩
    by_cases hji : j = i
    · subst hji; exact hy.wpOp hi hS ⟨fun _ => hS, H⟩
    · have h1 := H.2 j (ready_mono hj hji)
      obtain ⟨hjun, oj, hoj, hall⟩ := mem_ready.1 hj
      have hnot : ∀ e ∈ oj.after, Region.binds md e = true → e.on ≠ i := fun e he hb heq => by
        have h1 := hall e he hb
        have h0 := (mem_ready.1 hr).1
        rw [heq] at h1
        rcases Nat.lt_or_ge i listed.size with h' | h'
        · simp [h'] at h0 h1; rw [h0] at h1; cases h1
        · simp [Array.getElem?_eq_none h'] at h1
      have hjs : j ≠ s := fun e => by
        subst e
        obtain ⟨e, he, hb, hon⟩ := hsi oj hoj
        exact hnot e he hb hon
      have h2 := wpOp_putIf hoj (hfree j oj hoj hji hjun hnot) (fun cs b => hsel i oi cs b hi) (fun cs b => hsel j oj cs b hoj) hQ hy h1
      have hfree' : ∀ k ok, ops[k]? = some ok → k ≠ i → (listed.setIfInBounds j true).getD k true = false →
          (∀ e ∈ ok.after, Region.binds md e = true → e.on ≠ i) → oi.apart ops ok = true := fun k ok hk hki hun hno => by
        refine hfree k ok hk hki ?_ hno
        by_cases hjk : j = k
        · subst hjk; exact hjun
        · rw [getD_set_ne true hjk] at hun; exact hun
      have hs1 : (listed.setIfInBounds j true).getD s false = false := by rw [getD_set_ne false hjs]; exact hls
      have hs2 : ((listed.setIfInBounds i true).setIfInBounds j true).getD s false = false := by rw [getD_set_ne false hjs, getD_set_ne false his]; exact hls
      refine wpOp_mono (fun a' w' h3 => ⟨fun _ => h3.2.1 hs2, ih (listed.setIfInBounds j true) a' w' hfree' (ready_mono hr (Ne.symm hji)) hs1 h3.1 (h3.2.1 hs2) ?_⟩) h2
      rw [Array.setIfInBounds_comm _ _ hji]
      exact h3.2.2

/-- Does operation s wait for operation i? -/
def waits (ops : Array Oper) (s i : Nat) : Bool := match ops[s]? with
  | none => true
  | some os => os.after.toList.any fun e => Region.binds .any e && Nat.beq e.on i

/-- In whatever order the operations that are not listed come up. -/
def HX (P : Program) (N : Nat) (w0 : World) (ops : Array Oper) (Q : Exit → Act → World → Prop) (s : Nat) (Kp : List Ck) (fuel : Nat) (listed : Array Bool) (F : List (Nat × En)) (K : List Ck) : Prop :=
  At N w0 (wpAnyS P .any ops (NoPanic Q) s (KOk w0 Kp) fuel listed) F K
/-- What follows one operation of such a region. -/
def KnX (P : Program) (w0 : World) (ops : Array Oper) (Q : Exit → Act → World → Prop) (s : Nat) (Kp : List Ck) (fuel : Nat) (listed : Array Bool) (a : Act) (w : World) : Prop :=
  (listed.getD s false = false → KOk w0 Kp w) ∧ wpAnyS P .any ops (NoPanic Q) s (KOk w0 Kp) fuel listed a w

variable {s fuel : Nat} {listed : Array Bool}
theorem hx_start {i : Nat} {l : List Oper} (s : Nat) (Kp : List Ck) (hm : P.follows .mixedOrders = true) (h : HX P N w0 l.toArray Q s Kp l.length (Array.replicate l.length false) F K) : HC P N w0 (.region i l.toArray true) Q F K := fun a w ha hw =>
  wp_region_noPanic (wp_region_any hm (by simpa using wpAny_of_S _ _ _ _ (h a _ ha hw.drew)))
theorem hx_take {o : Oper} {v : Value} (i : Nat) (hi : ops[i]? = some o) (hs : (Region.noSelect ops && Region.free .any ops listed i && (Region.ready .any ops listed).contains i && waits ops s i && !(Nat.beq i s) && !(listed.getD s false)) = true)
    (hg : o.guard = none) (hd : o.dst = some d) (hN : d < N) (hy : YV P N w0 Kp F true o v) (hK : KSub K Kp) (hr : HX P N w0 ops Q s Kp fuel (listed.setIfInBounds i true) ((d, .pl v) :: F) K) : HX P N w0 ops Q s Kp (fuel + 1) listed F K := fun a w ha hw => by
  simp only [Bool.and_eq_true, Bool.not_eq_true'] at hs
  obtain ⟨⟨⟨⟨⟨h1, h2⟩, h3⟩, h4⟩, h5⟩, h6⟩ := hs
  refine wpAnyS_first (i := i) (v := v) hi (Region.noSelect_spec h1) (fun _ _ _ h => h.elim) (fun e => by subst e; simp at h5) (fun os hos => ?_) fuel listed a w (Region.free_spec hi h2) (by simpa using h3) h6 (Or.inl ⟨by simp [Region.wanted, hg], fun w hw => hy a w ha rfl hw⟩) (hw.sub hK) ?_
  · unfold waits at h4
    rw [hos] at h4
    obtain ⟨e, he, hb⟩ := List.any_eq_true.1 h4
    simp only [Bool.and_eq_true] at hb
    exact ⟨e, by simpa using he, hb.1, Nat.eq_of_beq_eq_true hb.2⟩
  · rw [hd]
    exact hr _ _ (ha.put d (.pl v) v hN rfl) hw
theorem hx_takeg {o : Oper} {v : Value} {j : Nat} {want c : Bool} (i : Nat) (hi : ops[i]? = some o) (hs : (Region.noSelect ops && Region.free .any ops listed i && (Region.ready .any ops listed).contains i && waits ops s i && !(Nat.beq i s) && !(listed.getD s false)) = true)
    (hg : o.guard = some (j, want)) (hG : GV N F ops j want c) (hd : o.dst = some d) (hN : d < N) (hy : YV P N w0 Kp F c o v) (hK : KSub K Kp) (hr : HX P N w0 ops Q s Kp fuel (listed.setIfInBounds i true) ((d, .gd c v) :: F) K) : HX P N w0 ops Q s Kp (fuel + 1) listed F K := fun a w ha hw => by
  simp only [Bool.and_eq_true, Bool.not_eq_true'] at hs
  obtain ⟨⟨⟨⟨⟨h1, h2⟩, h3⟩, h4⟩, h5⟩, h6⟩ := hs
  have hwant : Region.wanted o (yielded ops a.tmps) = c := by simp only [Region.wanted, hg]; exact hG a ha
  refine wpAnyS_first (i := i) (v := (En.gd c v).val) hi (Region.noSelect_spec h1) (fun _ _ _ h => h.elim) (fun e => by subst e; simp at h5) (fun os hos => ?_) fuel listed a w (Region.free_spec hi h2) (by simpa using h3) h6 ?_ (hw.sub hK) ?_
  · unfold waits at h4
    rw [hos] at h4
    obtain ⟨e, he, hb⟩ := List.any_eq_true.1 h4
    simp only [Bool.and_eq_true] at hb
    exact ⟨e, by simpa using he, hb.1, Nat.eq_of_beq_eq_true hb.2⟩
  · cases c with
    | true => exact Or.inl ⟨hwant, fun w hw => hy a w ha rfl hw⟩
    | false => exact Or.inr ⟨hwant, rfl⟩
  · rw [hd]
    exact hr _ _ (ha.put d (.gd c v) _ hN rfl) hw
theorem hx_done (hr : (Region.ready .any ops listed).isEmpty = true) (h : At N w0 (Q .normal) F K) : HX P N w0 ops Q s Kp fuel listed F K := fun a w ha hw => by
  have h0 : Region.ready .any ops listed = [] := by simpa using hr
  cases fuel with
  | zero => exact ⟨h0, h a w ha hw⟩
  | succ n => exact ⟨fun _ => h a w ha hw, by rw [h0]; simp⟩
theorem at_x (hK : listed.getD s false = true ∨ KSub K Kp) (h : HX P N w0 ops Q s Kp fuel listed F K) : At N w0 (KnX P w0 ops Q s Kp fuel listed) F K := fun a w ha hw =>
  ⟨fun hf => hK.elim (fun e => by rw [e] at hf; cases hf) (fun e => hw.sub e), h a w ha hw⟩
/-- One of several that may come up. -/
def OneX (P : Program) (N : Nat) (w0 : World) (ops : Array Oper) (Q : Exit → Act → World → Prop) (s : Nat) (Kp : List Ck) (fuel : Nat) (listed : Array Bool) (F : List (Nat × En)) (K : List Ck) (is : List Nat) : Prop :=
  ∀ i ∈ is, At N w0 (wpOp P ops (NoPanic Q) i (KnX P w0 ops Q s Kp fuel (listed.setIfInBounds i true))) F K
theorem hx_all (is : List Nat) (hr : Region.ready .any ops listed = is) (hne : is.isEmpty = false) (h : OneX P N w0 ops Q s Kp fuel listed F K is) : HX P N w0 ops Q s Kp (fuel + 1) listed F K := fun a w ha hw =>
  ⟨fun h0 => by rw [h0] at hr; subst hr; simp at hne, fun i hi => by rw [hr] at hi; exact h i hi a w ha hw⟩
theorem ox_nil : OneX P N w0 ops Q s Kp fuel listed F K [] := fun _ h => by cases h
theorem ox_cons {o : Oper} {i : Nat} {is : List Nat} (hi : ops[i]? = some o) (hg : o.guard = none) (h : HO P N w0 (NoPanic Q) o (KnX P w0 ops Q s Kp fuel (listed.setIfInBounds i true)) F K) (hs : OneX P N w0 ops Q s Kp fuel listed F K is) : OneX P N w0 ops Q s Kp fuel listed F K (i :: is) := fun j hj => by
  rcases List.mem_cons.1 hj with rfl | hj
  · intro a w ha hw
    unfold wpOp
    simp only [hi]
    rw [if_pos (by simp [Region.wanted, hg])]
    exact .inl (h a w ha hw)
  · exact hs j hj
end
end E
end Go.Proofs.YtpiiapoafmnhhaaGreat
