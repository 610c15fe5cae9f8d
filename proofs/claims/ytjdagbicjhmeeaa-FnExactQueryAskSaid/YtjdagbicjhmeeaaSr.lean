/- slices.SortFunc at the program's nodes; what is near a node. -/
import Derived.Test.YtjdagbicjhmeeaaSz
import Derived.Test.YtjdagbicjhmeeaaSd
import Derived.Test.YtjdagbicjhmeeaaIf
namespace Go.Proofs.Ytjdagbicjhmeeaa
namespace E
open Go Go.RowKit Go.Sort
theorem ndk_of {xs : List Nd} (h : ∀ x ∈ xs, nok x = true) : ∃ ys : List NdK, ys.map Subtype.val = xs := by
  induction xs with
  | nil => exact ⟨[], rfl⟩
  | cons x xs ih =>
    obtain ⟨ys, hy⟩ := ih (fun z hz => h z (List.mem_cons_of_mem _ hz))
    exact ⟨⟨x, h x List.mem_cons_self⟩ :: ys, by simp [hy]⟩
theorem sorted_of {d d' : Array NdK} (hp : PermIn 0 d.size d d') (hs : SortedIn (ltOf cfN) 0 d.size d') : (d'.toList.map Subtype.val).Perm (d.toList.map Subtype.val) ∧ (d'.toList.map Subtype.val).Pairwise (fun a b => cd a ≤ cd b) := by
  obtain ⟨h1, _, h2⟩ := hp
  constructor
  · have e1 : (d'.extract 0 d.size).toList = d'.toList := by rw [← h1]; simp
    have e2 : (d.extract 0 d.size).toList = d.toList := by simp
    rw [e1, e2] at h2
    exact h2.map _
  · rw [List.pairwise_map]
    refine List.pairwise_iff_getElem.2 (fun i j hi hj hij => ?_)
    have hj' : j < d'.size := by simpa using hj
    have h3 := hs i j (Nat.zero_le _) hij (by omega)
    rw [ltN, getElem!_pos d' j hj', getElem!_pos d' i (by omega)] at h3
    have := of_decide_eq_false h3
    simp only [Array.getElem_toList]
    omega
theorem sort_calls {v : Value} {xs : List NdK} {w0 : World} {K : List Ck} (w : World) (hw : KOk w0 (ownF 29 v xs :: K) w) (hl : xs.length ≤ 1000) :
    Calls Try.prog 71 #[v, .func (.func 72) #[] #[]] w (RetK (fun _ : { ys : List Nd // ys.Perm (xs.map Subtype.val) ∧ ys.Pairwise (fun a b => cd a ≤ cd b) } => .tuple #[]) (fun z => ownF 29 v z.1 :: K) w0) := by
  have hown := hw.holds _ List.mem_cons_self
  rcases hown.2 with ⟨rfl, h0⟩ | ⟨g, cap, cur, rfl, hB, hh, hnc, hcm, hcur, htk⟩
  · have hx : xs = [] := List.eq_nil_of_length_eq_zero h0
    subst hx
    have h := AnyF.slices_SortFunc_none sortL none 0 (.func (.func 72) #[] #[]) w
    refine h.mono (fun e w' h => ?_)
    obtain ⟨rfl, rfl⟩ := h
    exact ⟨⟨[], List.Perm.refl _, List.Pairwise.nil⟩, rfl, hw⟩
  · have hlt : g < w.heap.size := by
      rcases Nat.lt_or_ge g w.heap.size with h | h
      · exact h
      · rw [Array.getElem?_eq_none h] at hh; cases hh
    have h := AnyQ.slices_SortFunc sortL 2 Try.isAgg29 Try.sizeOf29 (Flat.f (α := NdK)) Flat.len Flat.one cfN swoN 72 #[] g 0 cap xs.toArray w (enters_of Try.func72 (by kernel_rfl) rfl) (s_lays g 0 _ w) (own_holds (B := 0) hh hnc hcur htk) hlt (by simp; omega)
    refine h.mono (fun e w' h => ?_)
    obtain ⟨rfl, d', n, os, hp, hs, rfl⟩ := h
    have hso := sorted_of hp hs
    refine ⟨⟨d'.toList.map Subtype.val, by simpa using hso.1, hso.2⟩, rfl, ?_⟩
    change KOk w0 (ownF 29 _ (d'.toList.map Subtype.val) :: K) _
    rw [ownF_val]
    exact own_sorted hw (by have := hp.1; simpa using this)
theorem c_sort {v : Value} {xs : List Nd} {w0 : World} {K : List Ck} (w : World) (hw : KOk w0 (ownF 29 v xs :: K) w) (hn : ∀ x ∈ xs, nok x = true) (hl : xs.length ≤ 1000) :
    Calls Try.prog 71 #[v, .func (.func 72) #[] #[]] w (RetK (fun _ : { ys : List Nd // ys.Perm xs ∧ ys.Pairwise (fun a b => cd a ≤ cd b) } => .tuple #[]) (fun z => ownF 29 v z.1 :: K) w0) := by
  obtain ⟨ys, rfl⟩ := ndk_of hn
  rw [ownF_val] at hw
  exact sort_calls w hw (by simpa using hl)
/-! ### What is near a node, as the program collects it -/
def nearC (n : Nd) (e : Eg) : List Nd := if n = e.a then [e.b] else if n = e.b then [e.a] else []
theorem nearC_other {n : Nd} {e : Eg} {x : Nd} : x ∈ nearC n e ↔ other e n = some x := by
  unfold nearC other
  by_cases h1 : e.a = n
  · rw [if_pos h1.symm, if_pos h1]; simp [eq_comm]
  · rw [if_neg (fun h => h1 h.symm), if_neg h1]
    by_cases h2 : e.b = n
    · rw [if_pos h2.symm, if_pos h2]; simp [eq_comm]
    · rw [if_neg (fun h => h2 h.symm), if_neg h2]; simp
theorem nearC_len (n : Nd) (e : Eg) : (nearC n e).length ≤ 1 := by
  unfold nearC; split
  · simp
  · split <;> simp
theorem colC_len (n : Nd) : ∀ es : List Eg, (es.flatMap (nearC n)).length ≤ es.length
  | [] => by simp
  | e :: es => by
    have := colC_len n es
    have := nearC_len n e
    simp only [List.flatMap_cons, List.length_append, List.length_cons]
    omega
theorem colC_mem {es : List Eg} {n x : Nd} : x ∈ es.flatMap (nearC n) ↔ x ∈ nearL es n := by
  rw [mem_nearL, List.mem_flatMap]
  constructor
  · rintro ⟨e, he, hx⟩; exact ⟨e, he, nearC_other.1 hx⟩
  · rintro ⟨e, he, hx⟩; exact ⟨e, he, nearC_other.2 hx⟩
theorem colC_take {es : List Eg} {n : Nd} {k : Nat} {e : Eg} (h : es[k]? = some e) : (es.take (k + 1)).flatMap (nearC n) = (es.take k).flatMap (nearC n) ++ nearC n e := by
  rw [List.take_add_one, h, List.flatMap_append]
  simp
/-- Sorted, and each once: what is near. -/
theorem near_eq {es : List Eg} {n : Nd} {ys : List Nd} (he : ∀ e ∈ es, eok e = true) (hp : ys.Perm (es.flatMap (nearC n))) (hs : ys.Pairwise (fun a b => cd a ≤ cd b)) : compU ys ys.length = nearL es n := by
  have hn : ∀ x ∈ ys, nok x = true := fun x hx => by
    have h1 := colC_mem.1 (hp.mem_iff.1 hx)
    obtain ⟨e, h2, h3⟩ := mem_nearL.1 h1
    exact other_nok (he e h2) h3
  refine sorted_ext cd (compU_sorted hn hs (Nat.le_refl _)) (ord_nearL he).2 (fun x => ?_)
  rw [mem_compU (Nat.le_refl _), List.take_length, hp.mem_iff, colC_mem]
end E
end Go.Proofs.Ytjdagbicjhmeeaa
