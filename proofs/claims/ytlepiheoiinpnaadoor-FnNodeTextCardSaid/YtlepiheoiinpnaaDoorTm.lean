/- What is handed in, read as data: slices of flat data, slices whose elements hold slices, structs (second edition). -/
import Derived.Test.YtlepiheoiinpnaaDoorTj
import Derived.OpenShut
import Derived.ShutString
import Derived.ChangeOld
import Derived.Lib.SmallJoins
import Derived.Deep.Slices
import Derived.Deep.Strs
namespace Go.Proofs.YtlepiheoiinpnaaDoor
namespace E
open Go Go.RowKit Go.ChangeShapes Go.WideShapes Go.ChangeAt Go.Joins Go.Deep
set_option linter.unusedVariables false
section
variable {H : Type} {enc : TypeId × Value → H} {P : Program} {W : World} {base : Nat} {spare : Nat → Bool} {held : Bool}

/-- Whatever reads at the type e is the cells of a datum. -/
def Dec (enc : TypeId × Value → H) (P : Program) (W : World) (base : Nat) (spare : Nat → Bool) (held : Bool) (e : TypeId) (α : Type) [Flat α] : Prop :=
  ∀ n cs y, DataW.trod enc P W base spare held n e cs = some y → ∃ x : α, cs = Flat.f x

theorem list_of {α : Type} (p : Nat → α → Prop) : ∀ l : Nat, (∀ i, i < l → ∃ x, p i x) → ∃ xs : List α, xs.length = l ∧ ∀ i x, xs[i]? = some x → p i x
  | 0, _ => ⟨[], rfl, fun i x h => by simp at h⟩
  | l + 1, h => by
    obtain ⟨xs, h1, h2⟩ := list_of p l (fun i hi => h i (by omega))
    obtain ⟨x, hx⟩ := h l (by omega)
    refine ⟨xs ++ [x], by simp [h1], fun i y hy => ?_⟩
    rcases Nat.lt_or_ge i xs.length with hi | hi
    · rw [List.getElem?_append_left hi] at hy
      exact h2 i y hy
    · rw [List.getElem?_append_right hi] at hy
      have h0 : i - xs.length = 0 := by
        rcases Nat.eq_zero_or_pos (i - xs.length) with h0 | h0
        · exact h0
        · rw [List.getElem?_eq_none (by simp; omega)] at hy; cases hy
      rw [h0] at hy
      simp only [List.getElem?_cons_zero, Option.some.injEq] at hy
      subst hy
      have : i = l := by omega
      subst this
      exact hx
theorem cells_at {α : Type} [Flat α] : ∀ (xs : List α) (j : Nat) (u : Value), (cells xs)[j]? = some u → ∃ i x q, xs[i]? = some x ∧ (Flat.f x)[q]? = some u ∧ q < Flat.k α ∧ j = i * Flat.k α + q
  | [], j, u, h => by simp [cells] at h
  | x :: xs, j, u, h => by
    simp only [cells, List.flatMap_cons] at h
    rcases Nat.lt_or_ge j (Flat.f x).length with hj | hj
    · rw [List.getElem?_append_left hj] at h
      exact ⟨0, x, j, rfl, h, by rw [Flat.len] at hj; exact hj, by simp⟩
    · rw [List.getElem?_append_right hj] at h
      obtain ⟨i, y, q, h1, h2, h3, h4⟩ := cells_at xs _ u h
      rw [Flat.len] at hj h4
      exact ⟨i + 1, y, q, by simpa using h1, h2, h3, by rw [Nat.add_mul]; omega⟩

theorem open_rdF {α : Type} [Flat α] {t e : TypeId} {v : Value} {d : DataW H} {p : List MemPlace} {r : Reach} {b0 : Nat} (ht : P.underlying t = some (.slice e)) (hk : P.cellsOf e = Flat.k α) (hpos : 0 < Flat.k α) (hd : Dec enc P W base spare held e α)
    (hv : Value.okWide P W r b0 t v) (h : DataW.Trod enc P W base spare held t v d p) : ∃ xs : List α, RdF W v xs := by
  obtain ⟨A, l, c, rfl⟩ := okWide_slice ht hv
  obtain ⟨fuel, hf⟩ := h
  rcases open_slice ht hf with ⟨hcs, _⟩ | ⟨a, len, cap, m, n, D, Pl, hcs, hb, hl, hm, hmm, _, hx⟩
  · have : A = none ∧ l = 0 ∧ c = 0 := by simpa [Value.cells] using hcs
    obtain ⟨rfl, rfl, rfl⟩ := this
    exact ⟨[], RdF.nil W⟩
  · have : A = some a ∧ l = len ∧ c = cap := by simpa [Value.cells] using hcs
    obtain ⟨rfl, rfl, rfl⟩ := this
    have hlm : l ≤ m := by rw [hmm]; split <;> omega
    obtain ⟨xs, h1, h2⟩ := list_of (fun i (x : α) => W.cells? base (a.add (i * Flat.k α)) (Flat.k α) = some (Flat.f x)) l (fun i hi => by
      obtain ⟨cs', h1, h2⟩ := hx i (by omega)
      obtain ⟨x, rfl⟩ := hd _ _ _ h2
      exact ⟨x, by rw [← hk]; exact h1⟩)
    subst h1
    have hcell : ∀ j u, (cells xs)[j]? = some u → W.cell? (a.add j) = some u := fun j u hj => by
      obtain ⟨i, x, q, g1, g2, g3, rfl⟩ := cells_at xs j u hj
      obtain ⟨_, _, g4⟩ := World.cells?_some (h2 i x g1)
      rw [← Addr.add_add, g4 q g3, g2]
    refine ⟨xs, ⟨⟨some a, c, rfl, hl, hm, fun _ => ⟨a, rfl⟩⟩, cells_length xs, fun hpos' => ?_, hcell⟩⟩
    have hlt : 0 < (cells xs).length := by rw [cells_length]; exact Nat.mul_pos hpos' hpos
    have := hcell 0 _ (List.getElem?_eq_getElem hlt)
    have hb := World.block_lt_of_cell? W _ this
    have hab : (a.add 0).block = a.block := by unfold Addr.add; split <;> rfl
    rw [hab] at hb
    exact hb
end
end E
end Go.Proofs.YtlepiheoiinpnaaDoor
