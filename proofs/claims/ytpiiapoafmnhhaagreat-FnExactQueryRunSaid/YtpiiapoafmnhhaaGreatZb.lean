/- slices.Sort and slices.Compact of numbers, over rows of the call's own. -/
import Derived.Test.YtpiiapoafmnhhaaGreatShelf
import Derived.Test.YtpiiapoafmnhhaaGreatM12
namespace Go.Proofs.YtpiiapoafmnhhaaGreat
namespace E
open Go Go.RowKit Go.Sort Go.Lib
set_option linter.unusedSimpArgs false
set_option linter.unusedVariables false
theorem cellsI (xs : List Int) : cells xs = xs.map (Value.int .i64) := by
  unfold cells
  induction xs with
  | nil => rfl
  | cons x xs ih => simp only [List.flatMap_cons, List.map_cons, ih]; rfl
theorem kI : Flat.k Int = 1 := rfl
theorem own_holdsI {w : World} {g cap : Nat} {e : TypeId} {xs : List Int} {cur : Array Value} (hh : w.heap[g]? = some (.cells cur e (0, 0))) (ht : cur.toList.take (xs.length * Flat.k Int) = cells xs) : Holds (Value.int .i64) w g 0 xs.toArray := by
  intro j hj
  have hj' : j < xs.length := by simpa using hj
  rw [kI, Nat.mul_one, cellsI] at ht
  have h1 : (xs.map (Value.int .i64))[j]? = some (.int .i64 xs[j]) := by rw [List.getElem?_map, List.getElem?_eq_getElem hj']; rfl
  rw [← ht, List.getElem?_take_of_lt hj'] at h1
  have h2 : xs.toArray[j]! = xs[j] := by rw [getElem!_pos xs.toArray j hj]; simp
  constructor
  · simp only [World.cell?, hh, Nat.zero_add, h2]
    simpa using h1
  · simp [World.frozen?, hh]
theorem own_putI {w0 w : World} {K : List Ck} {e : TypeId} {g cap m : Nat} {xs : List Int} {d : Array Int} {os : Array Obj} (h : KOk w0 (ownF e (.slice (some ⟨g, 0, none⟩) xs.length cap) xs :: K) w) (hd : d.size = xs.length) :
    KOk w0 (ownF e (.slice (some ⟨g, 0, none⟩) xs.length cap) d.toList :: K) (grow (putRow (Value.int .i64) (Sort.ahead w m) g 0 d) os) := by
  have hown := h.holds _ List.mem_cons_self
  rcases hown.2 with ⟨hv, _⟩ | ⟨g', cap', cur, hv, hB, hh, hnc, hcm, hcur, htk⟩
  · cases hv
  injection hv with h1 h2 h3
  injection h1 with h1
  injection h1 with h1
  subst h1 h3
  have hlt : g < w.heap.size := by
    rcases Nat.lt_or_ge g w.heap.size with h | h
    · exact h
    · rw [Array.getElem?_eq_none h] at hh; cases hh
  have hheap : (grow (putRow (Value.int .i64) (Sort.ahead w m) g 0 d) os).heap = (w.heap.modify g (onCells (putCells (Value.int .i64) 0 d))) ++ os := rfl
  have hold : ∀ k, k < w.heap.size → (grow (putRow (Value.int .i64) (Sort.ahead w m) g 0 d) os).heap[k]? = (w.heap.modify g (onCells (putCells (Value.int .i64) 0 d)))[k]? := fun k hk => by
    rw [hheap, Array.getElem?_append, if_pos (by simpa using hk)]
  refine h.turn (g := g) rfl ⟨rfl, rfl, rfl, ?_, fun k hk hne => ?_⟩ ?_ (Or.inl rfl)
  · rw [hheap]; simp
  · rw [hold k hk, Array.getElem?_modify, if_neg (fun e => hne (by rw [e]))]
  · have hdl : d.toList.length = xs.length := by rw [Array.length_toList]; exact hd
    refine ⟨by rw [cells_length], Or.inr ⟨g, cap, putCells (Value.int .i64) 0 d cur, ?_, hB, ?_, ?_, hcm, by simp [putCells, hcur], ?_⟩⟩
    · rw [hdl]
    · rw [hold g hlt, Array.getElem?_modify, if_pos rfl, hh]; rfl
    · rw [hdl]; exact hnc
    · rw [hdl, kI, Nat.mul_one, cellsI]
      rw [kI, Nat.mul_one] at hcur
      apply List.ext_getElem?
      intro j
      rcases Nat.lt_or_ge j xs.length with hj | hj
      · rw [List.getElem?_take_of_lt hj, List.getElem?_map]
        have h2 : d.toList[j]? = some d[j]! := by
          rw [Array.getElem?_toList, Array.getElem?_eq_getElem (by omega), getElem!_pos d j (by omega)]
        rw [h2]
        simp only [putCells, Array.getElem?_toList, Array.getElem?_mapIdx]
        rw [Array.getElem?_eq_getElem (by omega), Option.map_some, if_pos ⟨by omega, by omega⟩]
        rfl
      · rw [List.getElem?_eq_none (by simp; omega), List.getElem?_eq_none (by simp; omega)]
def srt (xs : List Int) : List Int := xs.mergeSort (fun x y => decide (x ≤ y))
theorem srt_len (xs : List Int) : (srt xs).length = xs.length := List.length_mergeSort xs
theorem c_sortI {v : Value} {xs : List Int} {w0 : World} {K : List Ck} (w : World) (hw : KOk w0 (ownF 3 v xs :: K) w) (hl : xs.length ≤ 100000000 := by omega) :
    Calls Tryz.prog 190 #[v] w (RetK (fun _ : Unit => .tuple #[]) (fun _ => ownF 3 v (srt xs) :: K) w0) := by
  have hown := hw.holds _ List.mem_cons_self
  rcases hown.2 with ⟨rfl, h0⟩ | ⟨g, cap, cur, rfl, hB, hh, hnc, hcm, hcur, htk⟩
  · have hx : xs = [] := List.eq_nil_of_length_eq_zero h0
    subst hx
    refine (Tryz.slices_Sort_int_none none 0 w).mono (fun e w' h => ?_)
    obtain ⟨rfl, rfl⟩ := h
    refine ⟨(), rfl, ?_⟩
    dsimp only
    rw [show srt [] = [] from List.mergeSort_nil]
    exact hw
  · have hlt : g < w.heap.size := by
      rcases Nat.lt_or_ge g w.heap.size with h | h
      · exact h
      · rw [Array.getElem?_eq_none h] at hh; cases hh
    refine (Tryz.slices_Sort_int g 0 cap xs w (own_holdsI (cap := cap) hh htk) hlt (by omega)).mono (fun e w' h => ?_)
    obtain ⟨rfl, n, os, rfl⟩ := h
    have h2 := own_putI (m := n) (os := os) hw (d := (srt xs).toArray) (by rw [List.size_toArray]; exact srt_len xs)
    exact ⟨(), rfl, h2⟩
theorem cmpt_le (xs : List Int) : (compact xs).length ≤ xs.length := by
  unfold compact compactUpTo
  rw [List.length_map]
  exact Nat.le_trans (List.length_filter_le _ _) (by simp)
theorem c_compI {v : Value} {xs : List Int} {w0 : World} {K : List Ck} (w : World) (hw : KOk w0 (ownF 3 v xs :: K) w) (hl : xs.length ≤ 100000000 := by omega) :
    Calls Tryz.prog 191 #[v] w (RetK (fun z : V1 => z.1) (fun z => ownF 3 z.1 (compact xs) :: K) w0) := by
  have hown := hw.holds _ List.mem_cons_self
  rcases hown.2 with ⟨rfl, h0⟩ | ⟨g, cap, cur, rfl, hB, hh, hnc, hcm, hcur, htk⟩
  · have hx : xs = [] := List.eq_nil_of_length_eq_zero h0
    subst hx
    refine (Tryz.slices_Compact_int_empty none 0 w).mono (fun e w' h => ?_)
    obtain ⟨rfl, rfl⟩ := h
    exact ⟨⟨_, rfl⟩, rfl, hw⟩
  · refine (Tryz.slices_Compact_int g 0 cap xs w (own_holdsI (cap := cap) hh htk) (by omega) hnc).mono (fun e w' h => ?_)
    obtain ⟨rfl, q, rfl⟩ := h
    have hcl := cmpt_le xs
    have h2 := own_putI (m := q) (os := #[]) hw (d := (compact xs ++ List.replicate (xs.length - (compact xs).length) 0).toArray) (by simp; omega)
    rw [grow_empty] at h2
    have hL : (compact xs ++ List.replicate (xs.length - (compact xs).length) (0 : Int)).length = xs.length := by simp; omega
    have h3 := KOk.pre (k := (compact xs).length) (v := .slice (some ⟨g, 0, none⟩) xs.length cap) h2 (by simp)
    simp only [List.take_left] at h3
    exact ⟨⟨_, rfl⟩, rfl, h3⟩
end E
end Go.Proofs.YtpiiapoafmnhhaaGreat
