/- What is near, places, steps (plain). -/
import Derived.Test.YtjdagbicjhmeeaaQa
namespace Go.Proofs.Ytjdagbicjhmeeaa
namespace E
open Go
set_option linter.unusedVariables false
/-! ### What is near -/
def other (e : Eg) (n : Nd) : Option Nd := if e.a = n then some e.b else if e.b = n then some e.a else none
def addN (acc : List Nd) (m : Nd) : List Nd := if m ∈ acc then acc else insN acc m
def nearS (n : Nd) (acc : List Nd) (e : Eg) : List Nd := match other e n with
  | some m => addN acc m
  | none => acc
def nearL (es : List Eg) (n : Nd) : List Nd := es.foldl (nearS n) []
theorem foldl_take_succ {α β : Type} (f : β → α → β) (b : β) {xs : List α} {k : Nat} {x : α} (h : xs[k]? = some x) : (xs.take (k + 1)).foldl f b = f ((xs.take k).foldl f b) x := by
  rw [List.take_add_one, h]
  simp
theorem nearL_step {es : List Eg} {n : Nd} {k : Nat} {e : Eg} (h : es[k]? = some e) : nearL (es.take (k + 1)) n = nearS n (nearL (es.take k) n) e := foldl_take_succ _ _ h
theorem mem_addN {acc : List Nd} {m x : Nd} : x ∈ addN acc m ↔ x = m ∨ x ∈ acc := by
  unfold addN
  split
  · constructor
    · exact Or.inr
    · rintro (rfl | h) <;> assumption
  · exact mem_insN
theorem mem_foldl_near {n x : Nd} : ∀ (es : List Eg) (acc : List Nd), x ∈ es.foldl (nearS n) acc ↔ x ∈ acc ∨ ∃ e ∈ es, other e n = some x
  | [], acc => by simp
  | e :: es, acc => by
    rw [List.foldl_cons, mem_foldl_near es]
    unfold nearS
    cases h : other e n with
    | none => simp [h]
    | some m =>
      simp only [mem_addN, List.mem_cons]
      constructor
      · rintro ((rfl | h1) | ⟨e', h1, h2⟩)
        · exact Or.inr ⟨e, Or.inl rfl, h⟩
        · exact Or.inl h1
        · exact Or.inr ⟨e', Or.inr h1, h2⟩
      · rintro (h1 | ⟨e', h1 | h1, h2⟩)
        · exact Or.inl (Or.inr h1)
        · subst h1; rw [h] at h2; injection h2 with h2; exact Or.inl (Or.inl h2.symm)
        · exact Or.inr ⟨e', h1, h2⟩
theorem mem_nearL {es : List Eg} {n x : Nd} : x ∈ nearL es n ↔ ∃ e ∈ es, other e n = some x := by
  unfold nearL
  rw [mem_foldl_near]
  simp
theorem Ord.addN {acc : List Nd} {m : Nd} (h : Ord acc) (hm : nok m = true) : Ord (addN acc m) := by
  unfold E.addN
  split
  · exact h
  · rename_i hn
    refine ⟨fun x hx => ?_, sorted_ins cd h.2 (fun y hy e => hn (cd_inj (h.1 y hy) hm e ▸ hy))⟩
    rcases mem_insN.1 hx with rfl | hx
    · exact hm
    · exact h.1 x hx
theorem other_nok {e : Eg} {n m : Nd} (he : eok e = true) (h : other e n = some m) : nok m = true := by
  obtain ⟨p1, p2, p3, _⟩ := eok_parts he
  unfold other at h
  split at h
  · injection h with h; subst h; exact p3
  · split at h
    · injection h with h; subst h; exact p2
    · cases h
theorem ord_foldl_near {n : Nd} : ∀ (es : List Eg) (acc : List Nd), (∀ e ∈ es, eok e = true) → Ord acc → Ord (es.foldl (nearS n) acc)
  | [], acc, _, h => h
  | e :: es, acc, he, h => by
    rw [List.foldl_cons]
    refine ord_foldl_near es _ (fun x hx => he x (List.mem_cons_of_mem _ hx)) ?_
    unfold nearS
    cases ho : other e n with
    | none => exact h
    | some m => exact h.addN (other_nok (he e List.mem_cons_self) ho)
theorem ord_nearL {es : List Eg} {n : Nd} (h : ∀ e ∈ es, eok e = true) : Ord (nearL es n) := ord_foldl_near es [] h ⟨by simp, by simp⟩
/-- Lists in strict order with the same members are one. -/
theorem sorted_ext {α : Type} (f : α → Int) : ∀ {xs ys : List α}, xs.Pairwise (fun a b => f a < f b) → ys.Pairwise (fun a b => f a < f b) → (∀ x, x ∈ xs ↔ x ∈ ys) → xs = ys
  | [], [], _, _, _ => rfl
  | [], y :: ys, _, _, h => by have := (h y).2 List.mem_cons_self; cases this
  | x :: xs, [], _, _, h => by have := (h x).1 List.mem_cons_self; cases this
  | x :: xs, y :: ys, hx, hy, h => by
    obtain ⟨hx1, hx2⟩ := List.pairwise_cons.1 hx
    obtain ⟨hy1, hy2⟩ := List.pairwise_cons.1 hy
    have e : x = y := by
      have h1 := (h x).1 List.mem_cons_self
      have h2 := (h y).2 List.mem_cons_self
      rcases List.mem_cons.1 h1 with e | h1
      · exact e
      · rcases List.mem_cons.1 h2 with e | h2
        · exact e.symm
        · have := hx1 y h2; have := hy1 x h1; omega
    subst e
    congr 1
    refine sorted_ext f hx2 hy2 (fun z => ?_)
    constructor
    · intro hz
      rcases List.mem_cons.1 ((h z).1 (List.mem_cons_of_mem _ hz)) with e | h1
      · subst e; have := hx1 z hz; omega
      · exact h1
    · intro hz
      rcases List.mem_cons.1 ((h z).2 (List.mem_cons_of_mem _ hz)) with e | h1
      · subst e; have := hy1 z hz; omega
      · exact h1
theorem Ord.nodup {ns : List Nd} (h : Ord ns) : ns.Nodup := h.2.imp (fun {a b} hab e => by subst e; omega)
theorem NOk.nodup {ns : List Nd} (h : NOk ns) : ns.Nodup := h.ord.nodup
theorem near_mem_ns {g : Gr} (h : g.ok) {n x : Nd} (hx : x ∈ nearL g.es n) : x ∈ g.ns ∧ n ∈ g.ns ∧ x ≠ n := by
  obtain ⟨e, he, ho⟩ := mem_nearL.1 hx
  obtain ⟨h1, h2, h3⟩ := h.2.1 e he
  have hlt := (eok_parts h1).2.2.2.1
  unfold other at ho
  split at ho
  · injection ho with ho
    rename_i ha
    subst ho; subst ha
    exact ⟨h3, h2, fun e' => by rw [e'] at hlt; omega⟩
  · split at ho
    · injection ho with ho
      rename_i ha hb
      subst ho; subst hb
      exact ⟨h2, h3, fun e' => by rw [e'] at hlt; omega⟩
    · cases ho
theorem near_symm {es : List Eg} {n x : Nd} (he : ∀ e ∈ es, e.a ≠ e.b) : x ∈ nearL es n → n ∈ nearL es x := by
  intro hx
  obtain ⟨e, h1, h2⟩ := mem_nearL.1 hx
  refine mem_nearL.2 ⟨e, h1, ?_⟩
  have := he e h1
  unfold other at h2 ⊢
  by_cases ha : e.a = n
  · rw [if_pos ha] at h2
    injection h2 with h2
    rw [if_neg (by rw [← h2]; exact this), if_pos h2, ha]
  · rw [if_neg ha] at h2
    by_cases hb : e.b = n
    · rw [if_pos hb] at h2
      injection h2 with h2
      rw [if_pos h2, hb]
    · rw [if_neg hb] at h2; cases h2
/-! ### Places -/
/-- The place of a node that is there. -/
def plc (ns : List Nd) (n : Nd) : Nat := (pos ns n).toNat
theorem plc_ok {ns : List Nd} {n : Nd} (h : n ∈ ns) : pos ns n = (plc ns n : Nat) ∧ ns[plc ns n]? = some n ∧ plc ns n < ns.length := by
  obtain ⟨k, e, hk, _⟩ := pos_ok h
  unfold plc
  rw [e, Int.toNat_natCast]
  exact ⟨rfl, hk, (List.getElem?_eq_some_iff.1 hk).1⟩
theorem nd_idx {α : Type} {xs : List α} (h : xs.Nodup) {i j : Nat} {x : α} (hi : xs[i]? = some x) (hj : xs[j]? = some x) : i = j := by
  obtain ⟨h1, e1⟩ := List.getElem?_eq_some_iff.1 hi
  obtain ⟨h2, e2⟩ := List.getElem?_eq_some_iff.1 hj
  exact (List.getElem_inj h).1 (e1.trans e2.symm)
theorem plc_at {ns : List Nd} {n : Nd} (h : ns.Nodup) {i : Nat} (hi : ns[i]? = some n) : plc ns n = i := nd_idx h (plc_ok (List.mem_of_getElem? hi)).2.1 hi
theorem plc_mono {ns : List Nd} (h : Ord ns) {x y : Nd} (hx : x ∈ ns) (hy : y ∈ ns) : plc ns x < plc ns y ↔ cd x < cd y := by
  obtain ⟨_, a1, a2⟩ := plc_ok hx
  obtain ⟨_, b1, b2⟩ := plc_ok hy
  obtain ⟨_, e1⟩ := List.getElem?_eq_some_iff.1 a1
  obtain ⟨_, e2⟩ := List.getElem?_eq_some_iff.1 b1
  have hp := List.pairwise_iff_getElem.1 h.2
  rcases Nat.lt_trichotomy (plc ns x) (plc ns y) with hlt | he | hgt
  · have := hp _ _ a2 b2 hlt
    rw [e1, e2] at this
    exact ⟨fun _ => this, fun _ => hlt⟩
  · constructor
    · intro h; omega
    · intro hc
      have : x = y := by rw [← e1, ← e2]; simp [he]
      subst this; omega
  · have := hp _ _ b2 a2 hgt
    rw [e1, e2] at this
    constructor
    · intro h; omega
    · intro h; omega
/-- The places of what is near, for each node. -/
def adjL (g : Gr) : List (List Nat) := g.ns.map (fun n => (nearL g.es n).map (plc g.ns))
/-- Rows of places: below n, ascending, never the own one. -/
def AOk (n : Nat) (adj : List (List Nat)) : Prop := adj.length = n ∧ ∀ (i : Nat) row, adj[i]? = some row → (∀ j ∈ row, j < n ∧ j ≠ i) ∧ row.Pairwise (· < ·)
theorem adj_get {g : Gr} {i : Nat} {n : Nd} (h : g.ns[i]? = some n) : (adjL g)[i]? = some ((nearL g.es n).map (plc g.ns)) := by simp [adjL, h]
theorem AOk.of {g : Gr} (h : g.ok) : AOk g.ns.length (adjL g) := by
  refine ⟨by simp [adjL], fun i row hr => ?_⟩
  simp only [adjL, List.getElem?_map, Option.map_eq_some_iff] at hr
  obtain ⟨n, hn, rfl⟩ := hr
  have ho := ord_nearL (n := n) (fun e he => (h.2.1 e he).1)
  constructor
  · intro j hj
    obtain ⟨x, hx, rfl⟩ := List.mem_map.1 hj
    obtain ⟨h1, h2, h3⟩ := near_mem_ns h hx
    refine ⟨(plc_ok h1).2.2, fun e => h3 ?_⟩
    have := (plc_ok h1).2.1
    rw [e, hn] at this
    injection this with this
    exact this.symm
  · rw [List.pairwise_map]
    refine ho.2.imp_of_mem (fun {a b} ha hb hab => ?_)
    exact (plc_mono h.1.ord (near_mem_ns h ha).1 (near_mem_ns h hb).1).2 hab
theorem nd_le : ∀ (n : Nat) (xs : List Nat), xs.Nodup → (∀ x ∈ xs, x < n) → xs.length ≤ n
  | 0, xs, _, h => by
    cases xs with
    | nil => simp
    | cons x xs => have := h x List.mem_cons_self; omega
  | n + 1, xs, hn, h => by
    have h1 := nd_le n (xs.erase n) (hn.erase n) (fun x hx => by
      have h2 := h x (List.mem_of_mem_erase hx)
      have h3 : x ≠ n := fun e => by subst e; exact (List.Nodup.not_mem_erase hn) hx
      omega)
    have := List.length_erase (a := n) (l := xs)
    split at this <;> omega
theorem row_len {n i : Nat} {row : List Nat} (h : ∀ j ∈ row, j < n ∧ j ≠ i) (hp : row.Pairwise (· < ·)) (hi : i < n) : row.length < n := by
  have hnd : (i :: row).Nodup := List.nodup_cons.2 ⟨fun hm => (h i hm).2 rfl, hp.imp (fun hab e => by omega)⟩
  have := nd_le n _ hnd (fun x hx => by
    rcases List.mem_cons.1 hx with rfl | hx
    · exact hi
    · exact (h x hx).1)
  simp at this
  omega
/-! ### Steps -/
structure Bf where
  st : List Int
  mt : List Nat
def bfIn (d : Int) (s : Bf) (o : Nat) : Bf := if s.st.getD o 0 < 0 then ⟨s.st.set o (d + 1), s.mt ++ [o]⟩ else s
def bfRow (adj : List (List Nat)) (s : Bf) (i : Nat) : Bf := (adj.getD i []).foldl (bfIn (s.st.getD i 0)) s
def bfGo (adj : List (List Nat)) : Nat → Nat → Bf → Bf
  | 0, _, s => s
  | f + 1, k, s => match s.mt[k]? with
    | none => s
    | some i => bfGo adj f (k + 1) (bfRow adj s i)
def bf0 (n : Nat) (i : Nat) : Bf := ⟨(List.replicate n (-1)).set i 0, [i]⟩
def bfs (adj : List (List Nat)) (n i : Nat) : Bf := bfGo adj n 0 (bf0 n i)
structure BI (n i0 : Nat) (s : Bf) : Prop where
  len : s.st.length = n
  lt : ∀ i ∈ s.mt, i < n
  nd : s.mt.Nodup
  iff : ∀ i, i < n → (0 ≤ s.st.getD i 0 ↔ i ∈ s.mt)
  bd : ∀ i, i < n → -1 ≤ s.st.getD i 0 ∧ s.st.getD i 0 < s.mt.length
  hd : s.st.getD i0 0 = 0
  pos : 0 < s.mt.length
theorem BI.mlen {n i0 : Nat} {s : Bf} (h : BI n i0 s) : s.mt.length ≤ n := nd_le n _ h.nd h.lt
theorem getD_set {xs : List Int} {i j : Nat} {v d : Int} (h : i < xs.length) : (xs.set i v).getD j d = if i = j then v else xs.getD j d := by
  simp only [List.getD_eq_getElem?_getD, List.getElem?_set]
  by_cases e : i = j
  · subst e; simp [h]
  · simp [e]
theorem BI.zero {n i : Nat} (h : i < n) : BI n i (bf0 n i) := by
  have hl : (List.replicate n (-1 : Int)).length = n := by simp
  have hg : ∀ j, j < n → ((List.replicate n (-1 : Int)).set i 0).getD j 0 = if i = j then 0 else -1 := fun j hj => by
    rw [getD_set (by omega)]
    split
    · rfl
    · simp [List.getD_eq_getElem?_getD, hj]
  refine ⟨by simp [bf0], by simp [bf0, h], by simp [bf0], fun j hj => ?_, fun j hj => ?_, ?_, by simp [bf0]⟩
  · simp only [bf0]; rw [hg j hj]
    by_cases e : i = j
    · simp [e]
    · simp [e]; exact fun e' => e e'.symm
  · simp only [bf0]; rw [hg j hj]
    split <;> simp
  · simp only [bf0]; rw [hg i h]; simp
theorem BI.step {n i0 : Nat} {s : Bf} {d : Int} {o : Nat} (h : BI n i0 s) (hd : 0 ≤ d ∧ d < s.mt.length) (ho : o < n) : BI n i0 (bfIn d s o) ∧ s.mt.length ≤ (bfIn d s o).mt.length ∧ ∀ j, j < n → 0 ≤ s.st.getD j 0 → (bfIn d s o).st.getD j 0 = s.st.getD j 0 := by
  unfold bfIn
  split
  · rename_i hlt
    have hol : o < s.st.length := by rw [h.len]; exact ho
    have hno : o ∉ s.mt := fun hm => by have := (h.iff o ho).2 hm; omega
    refine ⟨⟨by simp [h.len], fun i hi => ?_, ?_, fun i hi => ?_, fun i hi => ?_, ?_, by simp⟩, by simp, fun j hj hp => ?_⟩
    · simp only [List.mem_append, List.mem_singleton] at hi
      rcases hi with hi | rfl
      · exact h.lt i hi
      · exact ho
    · rw [List.nodup_append]
      exact ⟨h.nd, by simp, fun a ha b hb => by simp only [List.mem_singleton] at hb; subst hb; exact fun e => hno (e ▸ ha)⟩
    · simp only []
      rw [getD_set hol]
      by_cases e : o = i
      · subst e; simp; omega
      · simp only [e, if_false, List.mem_append, List.mem_singleton]
        rw [h.iff i hi]
        exact ⟨Or.inl, fun h' => h'.elim id (fun e' => absurd e'.symm e)⟩
    · simp only []
      rw [getD_set hol]
      have := h.bd i hi
      simp only [List.length_append, List.length_singleton]
      split <;> omega
    · simp only []
      rw [getD_set hol]
      have := h.hd
      rw [if_neg (fun e => by subst e; omega)]
      exact this
    · simp only []
      rw [getD_set hol, if_neg (fun e => by subst e; omega)]
  · exact ⟨h, Nat.le_refl _, fun j _ _ => rfl⟩
theorem BI.fold {n i0 : Nat} {d : Int} : ∀ (row : List Nat) {s : Bf}, BI n i0 s → 0 ≤ d ∧ d < s.mt.length → (∀ o ∈ row, o < n) → BI n i0 (row.foldl (bfIn d) s) ∧ s.mt.length ≤ (row.foldl (bfIn d) s).mt.length ∧ ∀ j, j < n → 0 ≤ s.st.getD j 0 → (row.foldl (bfIn d) s).st.getD j 0 = s.st.getD j 0
  | [], s, h, _, _ => ⟨h, Nat.le_refl _, fun _ _ _ => rfl⟩
  | o :: row, s, h, hd, hr => by
    obtain ⟨h1, h2, h3⟩ := h.step hd (hr o List.mem_cons_self)
    obtain ⟨a, b, c⟩ := BI.fold (d := d) row h1 ⟨hd.1, by omega⟩ (fun x hx => hr x (List.mem_cons_of_mem _ hx))
    refine ⟨a, by rw [List.foldl_cons]; omega, fun j hj hp => ?_⟩
    rw [List.foldl_cons, c j hj (by rw [h3 j hj hp]; exact hp), h3 j hj hp]
theorem BI.at {n i0 k i : Nat} {s : Bf} (h : BI n i0 s) (hk : s.mt[k]? = some i) : i < n ∧ 0 ≤ s.st.getD i 0 ∧ s.st.getD i 0 < s.mt.length := by
  have hm := List.mem_of_getElem? hk
  have := h.lt i hm
  exact ⟨this, (h.iff i this).2 hm, (h.bd i this).2⟩
theorem BI.row {n i0 : Nat} {adj : List (List Nat)} {s : Bf} {i : Nat} {k : Nat} (ha : AOk n adj) (h : BI n i0 s) (hi : s.mt[k]? = some i) : BI n i0 (bfRow adj s i) := by
  obtain ⟨h1, h2⟩ := h.at hi
  unfold bfRow
  refine (BI.fold (d := s.st.getD i 0) _ h h2 (fun o ho => ?_)).1
  obtain ⟨row, hr⟩ : ∃ row, adj[i]? = some row := ⟨_, List.getElem?_eq_getElem (by rw [ha.1]; exact h1)⟩
  rw [List.getD_eq_getElem?_getD, hr] at ho
  exact ((ha.2 i row hr).1 o ho).1
theorem bfGo_end {adj : List (List Nat)} : ∀ (f k : Nat) (s : Bf), s.mt.length ≤ k → bfGo adj f k s = s
  | 0, _, _, _ => rfl
  | f + 1, k, s, h => by
    simp only [bfGo]
    rw [List.getElem?_eq_none h]
theorem bfGo_step {adj : List (List Nat)} {f k i : Nat} {s : Bf} (h : s.mt[k]? = some i) : bfGo adj (f + 1) k s = bfGo adj f (k + 1) (bfRow adj s i) := by
  simp only [bfGo]
  rw [h]
theorem BI.go {n i0 : Nat} {adj : List (List Nat)} (ha : AOk n adj) : ∀ (f k : Nat) (s : Bf), BI n i0 s → BI n i0 (bfGo adj f k s)
  | 0, _, s, h => h
  | f + 1, k, s, h => by
    cases hk : s.mt[k]? with
    | none => simp only [bfGo, hk]; exact h
    | some i => rw [bfGo_step hk]; exact BI.go ha f (k + 1) _ (h.row ha hk)
theorem BI.bfs {n i : Nat} {adj : List (List Nat)} (ha : AOk n adj) (hi : i < n) : BI n i (bfs adj n i) := BI.go ha _ _ _ (BI.zero hi)
/-- How far each node is from one that is there. -/
def distL (g : Gr) (n : Nd) : List Int := if n ∈ g.ns then (bfs (adjL g) g.ns.length (plc g.ns n)).st else []
theorem distL_len {g : Gr} {n : Nd} (h : g.ok) (hn : n ∈ g.ns) : (distL g n).length = g.ns.length := by
  unfold distL
  rw [if_pos hn]
  exact (BI.bfs (AOk.of h) (plc_ok hn).2.2).len
theorem distL_zero {g : Gr} {n : Nd} (h : g.ok) (hn : n ∈ g.ns) : (distL g n)[plc g.ns n]? = some 0 := by
  have hb := BI.bfs (AOk.of h) (plc_ok hn).2.2
  have h1 := hb.hd
  have h2 := hb.len
  unfold distL
  rw [if_pos hn]
  rw [List.getD_eq_getElem?_getD] at h1
  have hl : plc g.ns n < (bfs (adjL g) g.ns.length (plc g.ns n)).st.length := by rw [h2]; exact (plc_ok hn).2.2
  rw [List.getElem?_eq_getElem hl] at h1 ⊢
  simpa using h1
/-- The nodes that can be reached from one, in the order in which they are met. -/
def waveL (g : Gr) (n : Nd) : List Nd := if n ∈ g.ns then (bfs (adjL g) g.ns.length (plc g.ns n)).mt.filterMap (fun i => g.ns[i]?) else []
end E
end Go.Proofs.Ytjdagbicjhmeeaa
