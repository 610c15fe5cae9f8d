/- Stores (plain). -/
import Derived.Test.YtpiiapoafmnhhaaGreatM06
namespace Go.Proofs.YtpiiapoafmnhhaaGreat
namespace E
open Go
set_option linter.unusedVariables false
/-! ### Stores -/
structure Sg where
  l : Int
  b : ByteArray
  deriving DecidableEq
def bs (l : List Nat) : ByteArray := ⟨(l.map UInt8.ofNat).toArray⟩
def bn (s : ByteArray) : List Nat := s.data.toList.map UInt8.toNat
theorem bn_bs {l : List Nat} (h : ∀ b ∈ l, b < 256) : bn (bs l) = l := by
  simp only [bn, bs, List.map_map]
  conv => rhs; rw [← List.map_id l]
  apply List.map_congr_left
  intro b hb
  have := h b hb
  simp [UInt8.toNat_ofNat', Nat.mod_eq_of_lt this]
theorem bs_app (a b : List Nat) : bs (a ++ b) = bs a ++ bs b := by
  simp [bs, ByteArray.ext_iff, ByteArray.data_append]
theorem bn_len (s : ByteArray) : (bn s).length = s.size := by unfold bn; rw [List.length_map, Array.length_toList]; rfl
def segOf (g : Gr) (a : Int) : Option Sg := if segB g a = [] then none else some ⟨a, bs (segB g a)⟩
def storeL (g : Gr) : List Sg := labs.filterMap (segOf g)
def nodeOf (c : Int) : Nd := ⟨c / 64, c % 64⟩
theorem nodeOf_cd {n : Nd} (h : nok n = true) : nodeOf (cd n) = n := by
  have := nok_iff.1 h
  rw [cd_ok h]
  obtain ⟨l, m⟩ := n
  simp only [nodeOf, Nd.mk.injEq] at *
  omega
def clsNs (a : Int) (c : Cls) : List Nd := c.nums.map (fun n => ⟨a, n⟩)
def rowEs (a : Int) (r : Rw) : List Eg := r.jn.filterMap (fun o => if r.code < o then some ⟨a, nodeOf r.code, nodeOf o⟩ else none)
def clsEs (a : Int) (c : Cls) : List Eg := c.rows.flatMap (rowEs a)
theorem clsNs_g (g : Gr) (a : Int) : clsNs a (clsG g a) = g.ns.filter (fun x => decide (x.l = a)) := by
  simp only [clsNs, clsG, numsL, List.map_map]
  conv => rhs; rw [← List.map_id (g.ns.filter _)]
  apply List.map_congr_left
  intro x hx
  simp only [List.mem_filter, decide_eq_true_eq] at hx
  obtain ⟨l, n⟩ := x
  simp only [Function.comp, id, Nd.mk.injEq, and_true]
  exact hx.2.symm
theorem rowPos_es (a : Int) (es : List Eg) : ∀ (p : Nat) (ns : List Nd), (rowPos es p ns).flatMap (rowEs a) = ns.flatMap (fun n => (jnL es n).filterMap (fun o => if cd n < o then some (⟨a, nodeOf (cd n), nodeOf o⟩ : Eg) else none))
  | _, [] => rfl
  | p, n :: ns => by
    simp only [rowPos, List.flatMap_cons, rowPos_es a es _ ns]
    rfl
theorem pw_filterMap {α β : Type} {R : α → α → Prop} {S : β → β → Prop} (f : α → Option β) : ∀ {xs : List α}, xs.Pairwise R → (∀ x ∈ xs, ∀ y ∈ xs, R x y → ∀ u v, f x = some u → f y = some v → S u v) → (xs.filterMap f).Pairwise S
  | [], _, _ => List.Pairwise.nil
  | x :: xs, h, hf => by
    obtain ⟨h1, h2⟩ := List.pairwise_cons.1 h
    have ih := pw_filterMap f h2 (fun a ha b hb => hf a (List.mem_cons_of_mem _ ha) b (List.mem_cons_of_mem _ hb))
    rw [List.filterMap_cons]
    split
    · exact ih
    · rename_i u hu
      refine List.pairwise_cons.2 ⟨fun v hv => ?_, ih⟩
      obtain ⟨y, hy, e⟩ := List.mem_filterMap.1 hv
      exact hf x List.mem_cons_self y (List.mem_cons_of_mem _ hy) (h1 y hy) u v hu e
theorem pw_flatMap {α β : Type} {R : α → α → Prop} {S : β → β → Prop} (f : α → List β) : ∀ {xs : List α}, xs.Pairwise R → (∀ x ∈ xs, (f x).Pairwise S) → (∀ x ∈ xs, ∀ y ∈ xs, R x y → ∀ u ∈ f x, ∀ v ∈ f y, S u v) → (xs.flatMap f).Pairwise S
  | [], _, _, _ => List.Pairwise.nil
  | x :: xs, h, h0, hf => by
    obtain ⟨h1, h2⟩ := List.pairwise_cons.1 h
    have ih := pw_flatMap f h2 (fun a ha => h0 a (List.mem_cons_of_mem _ ha)) (fun a ha b hb => hf a (List.mem_cons_of_mem _ ha) b (List.mem_cons_of_mem _ hb))
    rw [List.flatMap_cons, List.pairwise_append]
    refine ⟨h0 x List.mem_cons_self, ih, fun u hu v hv => ?_⟩
    obtain ⟨y, hy, e⟩ := List.mem_flatMap.1 hv
    exact hf x List.mem_cons_self y (List.mem_cons_of_mem _ hy) (h1 y hy) u hu v e
theorem clsEs_g {g : Gr} (h : g.ok) (a : Int) : clsEs a (clsG g a) = onlyE g.es a := by
  have he := onlyE_eok h (a := a)
  have ho := ord_endN he
  have hno : ∀ n, Ord (nearL (onlyE g.es a) n) := fun n => ord_nearL he
  have hlab : ∀ e ∈ onlyE g.es a, e.l = a := fun e hm => by simpa using (List.mem_filter.1 hm).2
  unfold clsEs clsG
  simp only []
  rw [rowPos_es]
  refine sorted_ext ekey ?_ (h.2.2.1.filter _) (fun x => ?_)
  · refine pw_flatMap (R := fun x y => cd x < cd y) _ ho.2 (fun n hn => ?_) (fun n hn m hm hlt u hu v hv => ?_)
    · refine pw_filterMap (R := (· < ·)) _ ?_ (fun o ho' o' ho'' hlt u v hu hv => ?_)
      · unfold jnL; rw [List.pairwise_map]; exact (hno n).2
      · obtain ⟨m, hm, rfl⟩ := List.mem_map.1 ho'
        obtain ⟨m', hm', rfl⟩ := List.mem_map.1 ho''
        rw [nodeOf_cd (ho.1 n hn), nodeOf_cd ((hno n).1 m hm)] at hu
        rw [nodeOf_cd (ho.1 n hn), nodeOf_cd ((hno n).1 m' hm')] at hv
        split at hu
        · split at hv
          · injection hu with hu; injection hv with hv; subst hu; subst hv
            unfold ekey; simp only []; omega
          · cases hv
        · cases hu
    · obtain ⟨o, ho', hu⟩ := List.mem_filterMap.1 hu
      obtain ⟨o', ho'', hv⟩ := List.mem_filterMap.1 hv
      obtain ⟨k, hk, rfl⟩ := List.mem_map.1 ho'
      obtain ⟨k', hk', rfl⟩ := List.mem_map.1 ho''
      rw [nodeOf_cd (ho.1 n hn), nodeOf_cd ((hno n).1 k hk)] at hu
      rw [nodeOf_cd (ho.1 m hm), nodeOf_cd ((hno m).1 k' hk')] at hv
      have b1 := cd_bd ((hno n).1 k hk)
      have b2 := cd_bd ((hno m).1 k' hk')
      split at hu
      · split at hv
        · injection hu with hu; injection hv with hv; subst hu; subst hv
          unfold ekey; simp only []; omega
        · cases hv
      · cases hu
  · rw [List.mem_flatMap]
    constructor
    · rintro ⟨n, hn, hx⟩
      obtain ⟨o, ho', hx⟩ := List.mem_filterMap.1 hx
      obtain ⟨m, hm, rfl⟩ := List.mem_map.1 ho'
      rw [nodeOf_cd (ho.1 n hn), nodeOf_cd ((hno n).1 m hm)] at hx
      split at hx
      · rename_i hlt
        injection hx with hx
        obtain ⟨e, he', hoe⟩ := mem_nearL.1 hm
        have hle := hlab e he'
        have hlt2 := (eok_parts (he e he')).2.2.2.1
        unfold other at hoe
        split at hoe
        · rename_i ea
          injection hoe with hoe
          have : x = e := by rw [← hx]; cases e; simp_all
          rw [this]; exact he'
        · split at hoe
          · rename_i _ eb
            injection hoe with hoe
            rw [eb, hoe] at hlt2; omega
          · cases hoe
      · cases hx
    · intro hx
      obtain ⟨p1, p2, p3, p4, _⟩ := eok_parts (he x hx)
      refine ⟨x.a, mem_endN.2 ⟨x, hx, Or.inl rfl⟩, List.mem_filterMap.2 ⟨cd x.b, List.mem_map.2 ⟨x.b, mem_nearL.2 ⟨x, hx, by simp [other]⟩, rfl⟩, ?_⟩⟩
      rw [if_pos p4, nodeOf_cd p2, nodeOf_cd p3]
      have := hlab x hx
      cases x; simp_all
theorem seg_nil {g : Gr} (h : g.ok) {a : Int} (ha : lok a = true) (hs : segB g a = []) : g.ns.filter (fun x => decide (x.l = a)) = [] ∧ onlyE g.es a = [] := by
  unfold segB at hs
  split at hs
  · rename_i hh
    refine ⟨by simpa [numsL] using hh.1, ?_⟩
    have h2 := hh.2
    cases hc : onlyE g.es a with
    | nil => rfl
    | cons e es =>
      have hm : e.a ∈ endN (onlyE g.es a) := mem_endN.2 ⟨e, by rw [hc]; exact List.mem_cons_self, Or.inl rfl⟩
      rw [h2] at hm; cases hm
  · have := rowB_pos (up_nums h ha)
    simp only [List.append_eq_nil_iff] at hs
    rw [hs.1] at this; simp at this
theorem ns_by_label {g : Gr} (h : g.ok) : labs.flatMap (fun a => g.ns.filter (fun x => decide (x.l = a))) = g.ns := by
  refine sorted_ext cd ?_ h.1.2.1 (fun x => ?_)
  · refine pw_flatMap (R := (· < ·)) _ (by decide) (fun a _ => h.1.2.1.filter _) (fun a _ b _ hab u hu v hv => ?_)
    simp only [List.mem_filter, decide_eq_true_eq] at hu hv
    rw [cd_ok (h.1.1 u hu.1), cd_ok (h.1.1 v hv.1)]
    have := nok_iff.1 (h.1.1 u hu.1)
    have := nok_iff.1 (h.1.1 v hv.1)
    omega
  · simp only [List.mem_flatMap, List.mem_filter, decide_eq_true_eq]
    constructor
    · rintro ⟨a, _, hx, _⟩; exact hx
    · intro hx
      exact ⟨x.l, mem_labs.2 (lok_iff.1 (nok_lok (h.1.1 x hx))), hx, rfl⟩
theorem es_by_label {g : Gr} (h : g.ok) : labs.flatMap (fun a => onlyE g.es a) = g.es := by
  refine sorted_ext ekey ?_ h.2.2.1 (fun x => ?_)
  · refine pw_flatMap (R := (· < ·)) _ (by decide) (fun a _ => h.2.2.1.filter _) (fun a _ b _ hab u hu v hv => ?_)
    simp only [onlyE, List.mem_filter, decide_eq_true_eq] at hu hv
    obtain ⟨a1, a2, a3, _⟩ := eok_parts (h.2.1 u hu.1).1
    obtain ⟨b1, b2, b3, _⟩ := eok_parts (h.2.1 v hv.1).1
    have h1 := cd_bd a2; have h2 := cd_bd a3; have h3 := cd_bd b2; have h4 := cd_bd b3
    unfold ekey
    omega
  · simp only [onlyE, List.mem_flatMap, List.mem_filter, decide_eq_true_eq]
    constructor
    · rintro ⟨a, _, hx, _⟩; exact hx
    · intro hx
      exact ⟨x.l, mem_labs.2 (lok_iff.1 (eok_parts (h.2.1 x hx).1).1), hx, rfl⟩
/-- Reading, label by label. -/
def addSg (g : Gr) (a : Int) (c : Cls) : Gr := ⟨g.ns ++ clsNs a c, g.es ++ clsEs a c⟩
def parse : List Sg → Gr → Option Gr
  | [], g => some g
  | s :: ss, g => match clsA (bn s.b) with
    | none => none
    | some c => parse ss (addSg g s.l c)
theorem clsA_sg {g : Gr} (h : g.ok) {a : Int} (ha : lok a = true) (hne : segB g a ≠ []) : clsA (bn (bs (segB g a))) = some (clsG g a) := by
  rw [bn_bs (segB_byte g a)]
  exact clsA_seg h ha hne
theorem parse_labs {g : Gr} (h : g.ok) : ∀ (ls : List Int) (g0 : Gr), (∀ a ∈ ls, lok a = true) → parse (ls.filterMap (segOf g)) g0 = some ⟨g0.ns ++ ls.flatMap (fun a => g.ns.filter (fun x => decide (x.l = a))), g0.es ++ ls.flatMap (fun a => onlyE g.es a)⟩
  | [], g0, _ => by simp [parse]
  | a :: ls, g0, hl => by
    have ha := hl a List.mem_cons_self
    have ih := fun g1 => parse_labs h ls g1 (fun b hb => hl b (List.mem_cons_of_mem _ hb))
    rw [List.filterMap_cons]
    by_cases hs : segB g a = []
    · obtain ⟨e1, e2⟩ := seg_nil h ha hs
      simp only [segOf, hs, if_true, List.flatMap_cons, e1, e2, List.nil_append]
      exact ih g0
    · simp only [segOf, hs, if_false]
      simp only [parse, clsA_sg h ha hs]
      rw [ih]
      simp [addSg, clsNs_g, clsEs_g h, List.append_assoc]
theorem parse_store {g : Gr} (h : g.ok) : parse (storeL g) ⟨[], []⟩ = some g := by
  unfold storeL
  rw [parse_labs h labs _ (fun a ha => lok_iff.2 (mem_labs.1 ha)), ns_by_label h, es_by_label h]
  simp
/-- The graph that is right of which this is the store. -/
def readL (store : List Sg) : Option Gr := match parse store ⟨[], []⟩ with
  | none => none
  | some g => if g.ok ∧ storeL g = store then some g else none
theorem readL_store {g : Gr} (h : g.ok) : readL (storeL g) = some g := by
  unfold readL
  rw [parse_store h]
  simp [h]
theorem readL_some {store : List Sg} {g : Gr} (h : readL store = some g) : g.ok ∧ storeL g = store ∧ parse store ⟨[], []⟩ = some g := by
  unfold readL at h
  split at h
  · cases h
  · rename_i g' hp
    split at h
    · rename_i hh
      injection h with h
      subst h
      exact ⟨hh.1, hh.2, hp⟩
    · cases h
theorem mem_storeL {g : Gr} {s : Sg} : s ∈ storeL g ↔ lok s.l = true ∧ segB g s.l ≠ [] ∧ s.b = bs (segB g s.l) := by
  unfold storeL
  rw [List.mem_filterMap]
  constructor
  · rintro ⟨a, ha, hs⟩
    unfold segOf at hs
    split at hs
    · cases hs
    · rename_i hne
      injection hs with hs
      subst hs
      exact ⟨lok_iff.2 (mem_labs.1 ha), hne, rfl⟩
  · rintro ⟨h1, h2, h3⟩
    refine ⟨s.l, mem_labs.2 (lok_iff.1 h1), ?_⟩
    unfold segOf
    rw [if_neg h2, ← h3]
theorem storeL_up (g : Gr) : (storeL g).Pairwise (fun a b => a.l < b.l) := by
  unfold storeL
  refine pw_filterMap (R := (· < ·)) _ (by decide) (fun a _ b _ hab u v hu hv => ?_)
  unfold segOf at hu hv
  split at hu
  · cases hu
  · split at hv
    · cases hv
    · injection hu with hu; injection hv with hv
      subst hu; subst hv
      exact hab
theorem storeL_len (g : Gr) : (storeL g).length ≤ 8 := List.length_filterMap_le _ _
theorem filter_two {α : Type} (f : α → Int) (c a : Int) (xs : List α) : (xs.filter (fun x => lun (f x) c)).filter (fun x => decide (f x = a)) = if lun a c = true then xs.filter (fun x => decide (f x = a)) else [] := by
  rw [List.filter_filter]
  split
  · rename_i h
    apply List.filter_congr
    intro x _
    by_cases e : f x = a
    · simp [e, h]
    · simp [e]
  · rename_i h
    rw [List.filter_eq_nil_iff]
    intro x _
    simp only [Bool.and_eq_true, decide_eq_true_eq]
    rintro ⟨e, h2⟩
    rw [e] at h2
    exact h h2
theorem segB_view (g : Gr) (c a : Int) : segB (view g c) a = if lun a c = true then segB g a else [] := by
  unfold segB
  have h1 : numsL (view g c).ns a = if lun a c = true then numsL g.ns a else [] := by
    unfold numsL view
    simp only []
    rw [filter_two (fun x : Nd => x.l)]
    split <;> rfl
  have h2 : onlyE (view g c).es a = if lun a c = true then onlyE g.es a else [] := by
    unfold onlyE view
    simp only []
    rw [filter_two (fun x : Eg => x.l)]
  rw [h1, h2]
  split <;> rfl
def viewS (store : List Sg) (c : Int) : List Sg := store.filter (fun s => lun s.l c)
theorem filterMap_congr {α β : Type} {f f' : α → Option β} : ∀ {xs : List α}, (∀ x ∈ xs, f x = f' x) → xs.filterMap f = xs.filterMap f'
  | [], _ => rfl
  | x :: xs, h => by
    rw [List.filterMap_cons, List.filterMap_cons, h x List.mem_cons_self, filterMap_congr (fun y hy => h y (List.mem_cons_of_mem _ hy))]
theorem store_view (g : Gr) (c : Int) : storeL (view g c) = viewS (storeL g) c := by
  unfold storeL viewS
  rw [List.filter_filterMap]
  apply filterMap_congr
  intro a _
  unfold segOf
  rw [segB_view]
  by_cases h : lun a c = true
  · rw [if_pos h]
    by_cases hs : segB g a = []
    · simp [hs]
    · simp [hs, h, Option.filter]
  · rw [if_neg h]
    by_cases hs : segB g a = []
    · simp [hs]
    · simp [hs, h, Option.filter]
end E
end Go.Proofs.YtpiiapoafmnhhaaGreat
