/- A slice that is handed in whose elements hold slices themselves: the rows, and what each of the inner slices reads as. -/
import Derived.Test.YtbplkdibjjcomaaOpn
import Derived.Test.YtbplkdibjjcomaaDn
namespace Go.Proofs.Ytbplkdibjjcomaa
namespace E
open Go Go.RowKit Go.ChangeShapes Go.WideShapes Go.ChangeAt Go.Joins Go.Deep
set_option linter.unusedVariables false
section
variable {H : Type} {enc : TypeId × Value → H} {P : Program} {W : World} {base : Nat} {spare : Nat → Bool} {held : Bool}
/-- Whatever reads at the type e is the cells of a datum of which Φ is true. -/
def DecP (enc : TypeId × Value → H) (P : Program) (W : World) (base : Nat) (spare : Nat → Bool) (held : Bool) (e : TypeId) (α : Type) [Flat α] (Φ : α → Prop) : Prop :=
  ∀ n cs y, DataW.trod enc P W base spare held n e cs = some y → ∃ x : α, cs = Flat.f x ∧ Φ x
theorem Dec.p {e : TypeId} {α : Type} [Flat α] (h : Dec enc P W base spare held e α) : DecP enc P W base spare held e α (fun _ => True) := fun n cs y hy => by
  obtain ⟨x, hx⟩ := h n cs y hy
  exact ⟨x, hx, trivial⟩
/-- The cells of a slice. -/
theorem open_cellsP {α : Type} [Flat α] {Φ : α → Prop} {t e : TypeId} {n : Nat} {cs : List Value} {y : DataW H × List MemPlace} (ht : P.underlying t = some (.slice e)) (hk : P.cellsOf e = Flat.k α) (hpos : 0 < Flat.k α) (hd : DecP enc P W base spare held e α Φ)
    (hf : DataW.trod enc P W base spare held n t cs = some y) : ∃ (s : Sv) (xs : List α), cs = [.slice s.a s.n s.c] ∧ RdF W (.slice s.a s.n s.c) xs ∧ ∀ x ∈ xs, Φ x := by
  rcases open_slice ht hf with ⟨hcs, _⟩ | ⟨a, l, c, m, n, D, Pl, hcs, hb, hl, hm, hmm, _, hx⟩
  · exact ⟨⟨none, 0, 0⟩, [], hcs, RdF.nil W, fun x h => by cases h⟩
  · have hlm : l ≤ m := by rw [hmm]; split <;> omega
    obtain ⟨xs, h1, h2⟩ := list_of (fun i (x : α) => W.cells? base (a.add (i * Flat.k α)) (Flat.k α) = some (Flat.f x) ∧ Φ x) l (fun i hi => by
      obtain ⟨cs', h1, h2⟩ := hx i (by omega)
      obtain ⟨x, rfl, hΦ⟩ := hd _ _ _ h2
      exact ⟨x, by rw [← hk]; exact h1, hΦ⟩)
    subst h1
    have hcell : ∀ j u, (cells xs)[j]? = some u → W.cell? (a.add j) = some u := fun j u hj => by
      obtain ⟨i, x, q, g1, g2, g3, rfl⟩ := cells_at xs j u hj
      obtain ⟨_, _, g4⟩ := World.cells?_some (h2 i x g1).1
      rw [← Addr.add_add, g4 q g3, g2]
    refine ⟨⟨some a, xs.length, c⟩, xs, hcs, ⟨⟨some a, c, rfl, hl, hm, fun _ => ⟨a, rfl⟩⟩, cells_length xs, fun hpos' => ?_, hcell⟩, fun x hx => ?_⟩
    · have hlt : 0 < (cells xs).length := by rw [cells_length]; exact Nat.mul_pos hpos' hpos
      have := hcell 0 _ (List.getElem?_eq_getElem hlt)
      have hb := World.block_lt_of_cell? W _ this
      have hab : (a.add 0).block = a.block := by unfold Addr.add; split <;> rfl
      rw [hab] at hb
      exact hb
    · obtain ⟨i, hi⟩ := List.getElem?_of_mem hx
      exact (h2 i x hi).2
theorem open_rdP {α : Type} [Flat α] {Φ : α → Prop} {t e : TypeId} {v : Value} {d : DataW H} {p : List MemPlace} {r : Reach} {b0 : Nat} (ht : P.underlying t = some (.slice e)) (hk : P.cellsOf e = Flat.k α) (hpos : 0 < Flat.k α) (hd : DecP enc P W base spare held e α Φ)
    (hv : Value.okWide P W r b0 t v) (h : DataW.Trod enc P W base spare held t v d p) : ∃ xs : List α, RdF W v xs ∧ ∀ x ∈ xs, Φ x := by
  obtain ⟨A, l, c, rfl⟩ := okWide_slice ht hv
  obtain ⟨fuel, hf⟩ := h
  obtain ⟨s, xs, h1, h2, h3⟩ := open_cellsP ht hk hpos hd hf
  have : A = s.a ∧ l = s.n ∧ c = s.c := by simpa [Value.cells] using h1
  obtain ⟨rfl, rfl, rfl⟩ := this
  exact ⟨xs, h2, h3⟩
/-- Rows of which each is told: a list of the data. -/
theorem told_list {α β : Type} (R : α → β → Prop) : ∀ xs : List α, (∀ x ∈ xs, ∃ y, R x y) → ∃ ys : List β, xs.length = ys.length ∧ ∀ (i : Nat) (x : α) (y : β), xs[i]? = some x → ys[i]? = some y → R x y
  | [], _ => ⟨[], rfl, fun i x y h => by simp at h⟩
  | x :: xs, h => by
    obtain ⟨y, hy⟩ := h x List.mem_cons_self
    obtain ⟨ys, h1, h2⟩ := told_list R xs (fun z hz => h z (List.mem_cons_of_mem _ hz))
    refine ⟨y :: ys, by simp [h1], fun i a b ha hb => ?_⟩
    cases i with
    | zero =>
      simp only [List.getElem?_cons_zero, Option.some.injEq] at ha hb
      subst ha; subst hb
      exact hy
    | succ i => exact h2 i a b (by simpa using ha) (by simpa using hb)
end
end E
end Go.Proofs.Ytbplkdibjjcomaa
