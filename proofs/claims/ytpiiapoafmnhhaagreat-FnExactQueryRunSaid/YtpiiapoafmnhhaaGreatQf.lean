/- Pages and pools (plain). -/
import Derived.Test.YtpiiapoafmnhhaaGreatQe
namespace Go.Proofs.YtpiiapoafmnhhaaGreat
namespace E
open Go
set_option linter.unusedVariables false
/-! ### Pages -/
def spanL (a : Int) (fr to : Nat) : List Pg := if lok a = true ∧ fr < to ∧ to ≤ 8000 then (List.range' (fr / 8) ((to + 7) / 8 - fr / 8)).map (fun (k : Nat) => (⟨a, (k : Int)⟩ : Pg)) else []
theorem mem_span {a : Int} {fr to : Nat} {p : Pg} (h : p ∈ spanL a fr to) : p.l = a ∧ lok a = true ∧ 0 ≤ p.a ∧ p.a * 8 < to ∧ p.a < 1000 := by
  unfold spanL at h
  split at h
  · rename_i hh
    obtain ⟨k, hk, rfl⟩ := List.mem_map.1 h
    rw [List.mem_range'_1] at hk
    refine ⟨rfl, hh.1, by simp, ?_, ?_⟩ <;> (simp only []; omega)
  · cases h
theorem span_first {a : Int} {to : Nat} (ha : lok a = true) (h : 0 < to ∧ to ≤ 8000) : (⟨a, 0⟩ : Pg) ∈ spanL a 0 to := by
  unfold spanL
  rw [if_pos ⟨ha, h⟩]
  refine List.mem_map.2 ⟨0, ?_, rfl⟩
  rw [List.mem_range'_1]
  omega
theorem span_ok {a : Int} {fr to : Nat} {p : Pg} (h : p ∈ spanL a fr to) : pgok p = true := by
  obtain ⟨h1, h2, h3, h4, h5⟩ := mem_span h
  simp [pgok, h1, h2, h3, h5]
def rowOf (rows : List Rw) (c : Int) : Nat × Nat := match rows.find? (fun r => decide (r.code = c)) with
  | some r => (r.fr, r.to)
  | none => (0, 0)
def hdS (s : Sg) : Nat := match clsA (bn s.b) with
  | some c => c.hd
  | none => 0
def rowS (s : Sg) (c : Int) : Nat × Nat := match clsA (bn s.b) with
  | some k => rowOf k.rows c
  | none => (0, 0)
def headsS (segs : List Sg) : List Pg := segs.flatMap (fun s => spanL s.l 0 (hdS s))
def nodeS (segs : List Sg) (n : Nd) : List Pg := segs.flatMap (fun s => spanL s.l (rowS s (cd n)).1 (rowS s (cd n)).2)
def pagesS (segs : List Sg) (order : List Nd) : List Pg := headsS segs ++ order.flatMap (nodeS segs)
def orderL (g : Gr) (q : Qu) : List Nd := if q.k = 1 then [q.n] else if q.k = 2 then waveL g q.n else g.ns
def pagesL (g : Gr) (q : Qu) : List Pg := pagesS (storeL g) (orderL g q)
theorem rowPos_to (es : List Eg) : ∀ (p : Nat) (ns : List Nd) (r : Rw), r ∈ rowPos es p ns → p ≤ r.fr ∧ r.fr ≤ r.to ∧ r.to ≤ p + (ns.flatMap (rowBy es)).length
  | _, [], r, h => by cases h
  | p, n :: ns, r, h => by
    simp only [rowPos, List.mem_cons] at h
    simp only [List.flatMap_cons, List.length_append]
    rcases h with rfl | h
    · simp only []; omega
    · have := rowPos_to es _ ns r h
      omega
theorem rowPos_codes (es : List Eg) : ∀ (p : Nat) (ns : List Nd), (rowPos es p ns).map (·.code) = ns.map cd
  | _, [] => rfl
  | p, n :: ns => by simp [rowPos, rowPos_codes es _ ns]
theorem seg_eq {g : Gr} {a : Int} (hne : segB g a ≠ []) : segB g a = rowB (numsL g.ns a) ++ (numB (endN (onlyE g.es a)).length ++ (endN (onlyE g.es a)).flatMap (rowBy (onlyE g.es a))) := by
  unfold segB at hne ⊢
  split
  · rename_i hh; rw [if_pos hh] at hne; exact absurd rfl hne
  · rfl
theorem clsG_in {g : Gr} (h : g.ok) {a : Int} (ha : lok a = true) (hne : segB g a ≠ []) : 0 < (clsG g a).hd ∧ (clsG g a).hd ≤ (segB g a).length ∧ ∀ r ∈ (clsG g a).rows, r.fr ≤ r.to ∧ r.to ≤ (segB g a).length := by
  have e := congrArg List.length (seg_eq hne)
  simp only [List.length_append] at e
  refine ⟨rowB_pos (up_nums h ha), by rw [e]; simp only [clsG]; omega, fun r hr => ?_⟩
  have := rowPos_to _ _ _ r hr
  rw [e]
  omega
theorem seg_small {g : Gr} (h : g.ok) {a : Int} (ha : lok a = true) : (segB g a).length ≤ 8000 := by
  by_cases hne : segB g a = []
  · rw [hne]; simp
  · have e := congrArg List.length (seg_eq hne)
    simp only [List.length_append] at e
    have h1 := nums_len h ha
    have h2 := onlyE_len h ha
    have h3 := rowB_le (numsL g.ns a)
    have h4 := numB_le (endN (onlyE g.es a)).length
    have h5 := len_endN (onlyE g.es a)
    have h6 : ∀ ns : List Nd, (ns.flatMap (rowBy (onlyE g.es a))).length ≤ 300 * ns.length := by
      intro ns
      induction ns with
      | nil => simp
      | cons n ns ih =>
        have a1 := rowB_le (jnL (onlyE g.es a) n)
        have a2 := numB_le (cd n)
        have a3 := (up_jn (onlyE_eok h (a := a)) (n := n) (by omega)).2.2
        simp only [List.flatMap_cons, List.length_append, List.length_cons, rowBy]
        omega
    have := h6 (endN (onlyE g.es a))
    omega
theorem find_mem {rows : List Rw} {c : Int} : rowOf rows c = (0, 0) ∨ ∃ r ∈ rows, rowOf rows c = (r.fr, r.to) := by
  unfold rowOf
  split
  · rename_i r hr
    exact Or.inr ⟨r, List.mem_of_find?_eq_some hr, rfl⟩
  · exact Or.inl rfl
theorem clsA_mem {g : Gr} (h : g.ok) {s : Sg} (hs : s ∈ storeL g) : clsA (bn s.b) = some (clsG g s.l) ∧ lok s.l = true ∧ segB g s.l ≠ [] ∧ (bn s.b) = segB g s.l := by
  obtain ⟨h1, h2, h3⟩ := mem_storeL.1 hs
  rw [h3]
  exact ⟨clsA_sg h h1 h2, h1, h2, bn_bs (segB_byte g s.l)⟩
theorem hd_in {g : Gr} (h : g.ok) {s : Sg} (hs : s ∈ storeL g) : 0 < hdS s ∧ hdS s ≤ (bn s.b).length ∧ (bn s.b).length ≤ 8000 := by
  obtain ⟨h1, h2, h3, h4⟩ := clsA_mem h hs
  have := clsG_in h h2 h3
  unfold hdS
  rw [h1, h4]
  exact ⟨this.1, this.2.1, seg_small h h2⟩
theorem row_in {g : Gr} (h : g.ok) {s : Sg} (hs : s ∈ storeL g) (c : Int) : (rowS s c).1 ≤ (rowS s c).2 ∧ (rowS s c).2 ≤ (bn s.b).length := by
  obtain ⟨h1, h2, h3, h4⟩ := clsA_mem h hs
  have hc := clsG_in h h2 h3
  unfold rowS
  rw [h1, h4]
  simp only []
  rcases find_mem (rows := (clsG g s.l).rows) (c := c) with e | ⟨r, hr, e⟩
  · rw [e]; simp
  · rw [e]; exact hc.2.2 r hr
/-- The pages that are read are pages of what there is. -/
theorem pages_in {g : Gr} (h : g.ok) {q : Qu} {p : Pg} (hp : p ∈ pagesL g q) : pgok p = true ∧ ∃ s ∈ storeL g, s.l = p.l ∧ p.a * 8 < (bn s.b).length := by
  unfold pagesL pagesS at hp
  rcases List.mem_append.1 hp with hp | hp
  · obtain ⟨s, hs, hp⟩ := List.mem_flatMap.1 hp
    have h1 := mem_span hp
    have h2 := hd_in h hs
    exact ⟨span_ok hp, s, hs, h1.1.symm, by omega⟩
  · obtain ⟨n, _, hp⟩ := List.mem_flatMap.1 hp
    obtain ⟨s, hs, hp⟩ := List.mem_flatMap.1 hp
    have h1 := mem_span hp
    have h2 := row_in h hs (cd n)
    exact ⟨span_ok hp, s, hs, h1.1.symm, by omega⟩
theorem pages_head {g : Gr} (h : g.ok) {q : Qu} {s : Sg} (hs : s ∈ storeL g) : (⟨s.l, 0⟩ : Pg) ∈ pagesL g q := by
  have h1 := hd_in h hs
  exact List.mem_append_left _ (List.mem_flatMap.2 ⟨s, hs, span_first (clsA_mem h hs).2.1 (by omega)⟩)
theorem pages_nil {g : Gr} {q : Qu} (hs : storeL g = []) : pagesL g q = [] := by
  unfold pagesL pagesS headsS
  rw [hs]
  simp [nodeS]
/-! ### Pools -/
def useP (p : Pl) (x : Pg) : Pl := ⟨p.z, (x :: p.l.filter (fun y => !decide (y = x))).take p.z.toNat⟩
def allS (s : Pl × Int) (x : Pg) : Pl × Int := (useP s.1 x, if x ∈ s.1.l then s.2 else s.2 + 1)
def allP (p : Pl) (list : List Pg) : Pl × Int := list.foldl allS (p, 0)
theorem allP_step {p : Pl} {list : List Pg} {k : Nat} {x : Pg} (h : list[k]? = some x) : allP p (list.take (k + 1)) = allS (allP p (list.take k)) x := foldl_take_succ _ _ h
theorem nodup_use {x : Pg} {l : List Pg} (h : l.Nodup) : (x :: l.filter (fun y => !decide (y = x))).Nodup := List.nodup_cons.2 ⟨by simp [List.mem_filter], h.filter _⟩
theorem PlOk.use {p : Pl} {x : Pg} (h : PlOk p) (hx : pgok x = true) : PlOk (useP p x) := by
  obtain ⟨⟨h1, h2, h3⟩, h4, h5⟩ := h
  refine ⟨⟨h1, h2, ?_⟩, fun y hy => ?_, (nodup_use h5).sublist (List.take_sublist _ _)⟩
  · simp only [useP, List.length_take]; omega
  · have := List.mem_of_mem_take hy
    rcases List.mem_cons.1 this with rfl | hy
    · exact hx
    · exact h4 y (List.mem_filter.1 hy).1
theorem allF_z : ∀ (list : List Pg) (s : Pl × Int), (list.foldl allS s).1.z = s.1.z
  | [], _ => rfl
  | x :: list, s => by rw [List.foldl_cons, allF_z list]; rfl
theorem allP_z (p : Pl) (list : List Pg) : (allP p list).1.z = p.z := allF_z _ _
theorem allF_n : ∀ (list : List Pg) (s : Pl × Int), s.2 ≤ (list.foldl allS s).2 ∧ (list.foldl allS s).2 ≤ s.2 + list.length
  | [], s => by simp
  | x :: list, s => by
    have := allF_n list (allS s x)
    have h2 : s.2 ≤ (allS s x).2 ∧ (allS s x).2 ≤ s.2 + 1 := by unfold allS; simp only []; split <;> omega
    rw [List.foldl_cons, List.length_cons]
    omega
theorem allP_n (p : Pl) (list : List Pg) : 0 ≤ (allP p list).2 ∧ (allP p list).2 ≤ list.length := by have := allF_n list (p, 0); simpa [allP] using this
theorem allF_ok : ∀ (list : List Pg) (s : Pl × Int), (∀ x ∈ list, pgok x = true) → PlOk s.1 → PlOk (list.foldl allS s).1
  | [], _, _, h => h
  | x :: list, s, hx, h => by rw [List.foldl_cons]; exact allF_ok list _ (fun y hy => hx y (List.mem_cons_of_mem _ hy)) (h.use (hx x List.mem_cons_self))
theorem PlOk.all {p : Pl} {list : List Pg} (h : PlOk p) (hx : ∀ x ∈ list, pgok x = true) : PlOk (allP p list).1 := allF_ok list _ hx h
/-- With no room all is missed. -/
theorem all_none : ∀ (list : List Pg) (n : Int), list.foldl allS (⟨0, []⟩, n) = (⟨0, []⟩, n + list.length)
  | [], n => by simp
  | x :: list, n => by
    rw [List.foldl_cons]
    have : allS (⟨0, []⟩, n) x = (⟨0, []⟩, n + 1) := by simp [allS, useP]
    rw [this, all_none list]
    simp only [List.length_cons, Prod.mk.injEq, true_and]
    omega
theorem all_first {z : Int} {list : List Pg} (h : list ≠ []) : 1 ≤ (allP ⟨z, []⟩ list).2 := by
  cases list with
  | nil => exact absurd rfl h
  | cons x list =>
    have := allF_n list (allS (⟨z, []⟩, 0) x)
    unfold allP
    rw [List.foldl_cons]
    have e : (allS (⟨z, []⟩, 0) x).2 = 1 := by simp [allS]
    omega
/-- A greater pool has what a lesser one has. -/
theorem take_use {x : Pg} {l : List Pg} (h : l.Nodup) (k : Nat) : (x :: (l.take k).filter (fun y => !decide (y = x))).take k = (x :: l.filter (fun y => !decide (y = x))).take k := by
  cases k with
  | zero => simp
  | succ k =>
    simp only [List.take_succ_cons, List.cons.injEq, true_and]
    rcases Nat.lt_or_ge (k + 1) l.length with hlt | hge
    · have hsp : l.filter (fun y => !decide (y = x)) = (l.take (k + 1)).filter (fun y => !decide (y = x)) ++ (l.drop (k + 1)).filter (fun y => !decide (y = x)) := by
        rw [← List.filter_append, List.take_append_drop]
      rw [hsp, List.take_append_of_le_length]
      have h1 : (l.take (k + 1)).length = k + 1 := by simp; omega
      have h2 := List.length_eq_countP_add_countP (fun y => !decide (y = x)) (l := l.take (k + 1))
      have h3 : (l.take (k + 1)).countP (fun y => decide ¬(!decide (y = x)) = true) ≤ 1 := by
        have : (l.take (k + 1)).countP (fun y => decide ¬(!decide (y = x)) = true) = (l.take (k + 1)).count x := by
          unfold List.count
          apply List.countP_congr
          intro y _
          simp
        rw [this]
        exact List.nodup_iff_count.1 (h.sublist (List.take_sublist _ _)) x
      rw [← List.countP_eq_length_filter]
      omega
    · rw [List.take_of_length_le hge]
theorem room_step {k : Nat} {s s' : Pl × Int} {x : Pg} (hz : s.1.z = k) (hz' : s'.1.z = k + 1) (hn : s'.1.l.Nodup) (hl : s.1.l = s'.1.l.take k) (hm : s'.2 ≤ s.2) :
    (allS s x).1.l = (allS s' x).1.l.take k ∧ (allS s' x).2 ≤ (allS s x).2 ∧ (allS s' x).1.l.Nodup := by
  have e1 : s.1.z.toNat = k := by omega
  have e2 : s'.1.z.toNat = k + 1 := by omega
  refine ⟨?_, ?_, ?_⟩
  · simp only [allS, useP, e1, e2, hl, List.take_take]
    rw [take_use hn]
    congr 1
    omega
  · simp only [allS]
    by_cases h : x ∈ s.1.l
    · have : x ∈ s'.1.l := by rw [hl] at h; exact List.mem_of_mem_take h
      rw [if_pos h, if_pos this]; exact hm
    · rw [if_neg h]
      split <;> omega
  · exact (nodup_use hn).sublist (List.take_sublist _ _)
theorem room_all {k : Nat} : ∀ (list : List Pg) (s s' : Pl × Int), s.1.z = k → s'.1.z = k + 1 → s'.1.l.Nodup → s.1.l = s'.1.l.take k → s'.2 ≤ s.2 →
    (list.foldl allS s).1.l = (list.foldl allS s').1.l.take k ∧ (list.foldl allS s').2 ≤ (list.foldl allS s).2
  | [], s, s', _, _, _, hl, hm => ⟨hl, hm⟩
  | x :: list, s, s', hz, hz', hn, hl, hm => by
    obtain ⟨a, b, c⟩ := room_step (x := x) hz hz' hn hl hm
    exact room_all list _ _ hz hz' c a b
/-- How many unlike ones there are. -/
def unlR : List Pg → Nat
  | [] => 0
  | x :: xs => (if x ∈ xs then 0 else 1) + unlR xs
def unl (l : List Pg) : Nat := unlR l.reverse
theorem unl_step {l : List Pg} {k : Nat} {x : Pg} (h : l[k]? = some x) : unl (l.take (k + 1)) = unl (l.take k) + if x ∈ l.take k then 0 else 1 := by
  unfold unl
  rw [List.take_add_one, h]
  simp only [Option.toList_some, List.reverse_append, List.reverse_cons, List.reverse_nil, List.nil_append, List.cons_append, unlR, List.mem_reverse]
  omega
theorem unl_take (l : List Pg) : ∀ k, unl (l.take k) ≤ unl l := by
  have h : ∀ (a b : List Pg), unlR b ≤ unlR (a ++ b) := by
    intro a b
    induction a with
    | nil => exact Nat.le_refl _
    | cons x a ih => simp only [List.cons_append, unlR]; omega
  intro k
  unfold unl
  conv => rhs; rw [← List.take_append_drop k l, List.reverse_append]
  exact h _ _
theorem len_without {x : Pg} {A : List Pg} (h : A.Nodup) : (A.filter (fun y => !decide (y = x))).length + (if x ∈ A then 1 else 0) = A.length := by
  induction A with
  | nil => rfl
  | cons a A ih =>
    obtain ⟨h1, h2⟩ := List.nodup_cons.1 h
    have ih := ih h2
    by_cases e : a = x
    · subst e
      rw [if_neg h1] at ih
      simp at ih ⊢
      omega
    · have e' : ¬ x = a := fun h => e h.symm
      simp only [List.filter_cons, e, decide_false, Bool.not_false, if_true, List.length_cons, List.mem_cons, e', false_or]
      omega
/-- Behind the first k uses the pages used are ahead in the pool, if there is room. -/
theorem recent {p : Pl} {l : List Pg} (hz : 0 ≤ p.z) (hu : (unl l : Int) ≤ p.z) : ∀ k, k ≤ l.length → ∃ A B, (allP p (l.take k)).1.l = A ++ B ∧ A.length = unl (l.take k) ∧ A.Nodup ∧ ∀ y, y ∈ A ↔ y ∈ l.take k
  | 0, _ => ⟨[], p.l, by simp [allP], by simp [unl, unlR], by simp, by simp⟩
  | k + 1, hk => by
    obtain ⟨A, B, h1, h2, h3, h4⟩ := recent hz hu k (by omega)
    obtain ⟨x, hx⟩ : ∃ x, l[k]? = some x := ⟨_, List.getElem?_eq_getElem (by omega)⟩
    have hzz := allP_z p (l.take k)
    have hun := unl_step hx
    have hul := unl_take l (k + 1)
    have hw := len_without (x := x) h3
    have hl : (x :: A.filter (fun y => !decide (y = x))).length = unl (l.take (k + 1)) := by
      rw [List.length_cons, hun, ← h2]
      by_cases hm : x ∈ A
      · rw [if_pos ((h4 x).1 hm)]; rw [if_pos hm] at hw; omega
      · rw [if_neg (fun h => hm ((h4 x).2 h))]; rw [if_neg hm] at hw; omega
    refine ⟨x :: A.filter (fun y => !decide (y = x)), (B.filter (fun y => !decide (y = x))).take (p.z.toNat - unl (l.take (k + 1))), ?_, hl, nodup_use h3, fun y => ?_⟩
    · rw [allP_step hx]
      simp only [allS, useP, h1, hzz, List.filter_append]
      rw [← List.cons_append, List.take_append, hl, List.take_of_length_le (by omega)]
    · rw [List.take_add_one, hx]
      simp only [Option.toList_some, List.mem_cons, List.mem_filter, List.mem_append, Bool.not_eq_true', decide_eq_false_iff_not, h4]
      by_cases e : y = x <;> simp [e]
theorem all_there {p : Pl} {l : List Pg} (hz : 0 ≤ p.z) (hu : (unl l : Int) ≤ p.z) : ∀ x ∈ l, x ∈ (allP p l).1.l := fun x hx => by
  obtain ⟨A, B, h1, _, _, h4⟩ := recent hz hu l.length (Nat.le_refl _)
  rw [List.take_length] at h1 h4
  rw [h1]
  exact List.mem_append_left _ ((h4 x).2 hx)
/-- Where all is there nothing is missed, and nothing goes. -/
theorem all_hit : ∀ (l : List Pg) (p : Pl) (n : Int), PlOk p → (∀ x ∈ l, x ∈ p.l) → (l.foldl allS (p, n)).2 = n ∧ (l.foldl allS (p, n)).1.l.length = p.l.length ∧ ∀ y, y ∈ (l.foldl allS (p, n)).1.l ↔ y ∈ p.l
  | [], p, n, _, _ => ⟨rfl, rfl, fun _ => Iff.rfl⟩
  | x :: l, p, n, hp, h => by
    have hx := h x List.mem_cons_self
    have hw := len_without (x := x) hp.2.2
    rw [if_pos hx] at hw
    have hlen := hp.1
    have hu : (useP p x).l = x :: p.l.filter (fun y => !decide (y = x)) := by
      simp only [useP]
      rw [List.take_of_length_le]
      simp only [List.length_cons]; omega
    have hm : ∀ y, y ∈ (useP p x).l ↔ y ∈ p.l := fun y => by
      rw [hu]
      simp only [List.mem_cons, List.mem_filter, Bool.not_eq_true', decide_eq_false_iff_not]
      by_cases e : y = x
      · subst e; simp [hx]
      · simp [e]
    have hok : PlOk (useP p x) := ⟨⟨hp.1.1, hp.1.2.1, by rw [hu]; simp only [useP, List.length_cons]; omega⟩, fun y hy => hp.2.1 y ((hm y).1 hy), by rw [hu]; exact nodup_use hp.2.2⟩
    obtain ⟨a, b, c⟩ := all_hit l (useP p x) n hok (fun y hy => (hm y).2 (h y (List.mem_cons_of_mem _ hy)))
    rw [List.foldl_cons]
    have e : allS (p, n) x = (useP p x, n) := by simp only [allS]; rw [if_pos hx]
    rw [e]
    refine ⟨a, ?_, fun y => (c y).trans (hm y)⟩
    rw [b, hu, List.length_cons]; omega
end E
end Go.Proofs.YtpiiapoafmnhhaaGreat
