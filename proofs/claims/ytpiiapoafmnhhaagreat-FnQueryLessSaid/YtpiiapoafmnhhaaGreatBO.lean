/- What is handed in, read as data: slices of flat data, slices whose elements hold slices, structs (second edition). -/
import Derived.Test.YtpiiapoafmnhhaaGreatM04
import Derived.OpenShut
import Derived.ShutString
import Derived.ChangeOld
import Derived.Lib.SmallJoins
import Derived.Deep.Slices
import Derived.Deep.Strs
import Derived.ProofKit
namespace Go.Proofs.YtpiiapoafmnhhaaGreat
namespace E
open Go Go.RowKit Go.ChangeShapes Go.WideShapes Go.ChangeAt Go.Joins Go.Deep
set_option linter.unusedVariables false
section
variable {H : Type} {enc : TypeId × Value → H} {P : Program} {W : World} {base : Nat} {spare : Nat → Bool} {held : Bool}

/-- Whatever reads at the type e is the cells of a datum. -/
def Dec (enc : TypeId × Value → H) (P : Program) (W : World) (base : Nat) (spare : Nat → Bool) (held : Bool) (e : TypeId) (α : Type) [Flat α] : Prop :=
  ∀ n cs y, DataW.trod enc P W base spare held n e cs = some y → ∃ x : α, cs = Flat.f x

theorem list_of {α : Type} (p : Nat → α → Prop) : ∀ l : Nat, (∀ i, i < l → ∃ x, p i x) → ∃ xs : List α, xs.length = l ∧ ∀ i x, xs[i]? = some x → p i x
  | 0, _ => ⟨[], rfl, fun i x h => by simp at h⟩
  | l + 1, h => by
    obtain ⟨xs, h1, h2⟩ := list_of p l (fun i hi => h i (by omega))
    obtain ⟨x, hx⟩ := h l (by omega)
    refine ⟨xs ++ [x], by simp [h1], fun i y hy => ?_⟩
    rcases Nat.lt_or_ge i xs.length with hi | hi
    · rw [List.getElem?_append_left hi] at hy
      exact h2 i y hy
    · rw [List.getElem?_append_right hi] at hy
      have h0 : i - xs.length = 0 := by
        rcases Nat.eq_zero_or_pos (i - xs.length) with h0 | h0
        · exact h0
        · rw [List.getElem?_eq_none (by simp; omega)] at hy; cases hy
      rw [h0] at hy
      simp only [List.getElem?_cons_zero, Option.some.injEq] at hy
      subst hy
      have : i = l := by omega
      subst this
      exact hx
theorem cells_at {α : Type} [Flat α] : ∀ (xs : List α) (j : Nat) (u : Value), (cells xs)[j]? = some u → ∃ i x q, xs[i]? = some x ∧ (Flat.f x)[q]? = some u ∧ q < Flat.k α ∧ j = i * Flat.k α + q
  | [], j, u, h => by simp [cells] at h
  | x :: xs, j, u, h => by
    simp only [cells, List.flatMap_cons] at h
    rcases Nat.lt_or_ge j (Flat.f x).length with hj | hj
    · rw [List.getElem?_append_left hj] at h
      exact ⟨0, x, j, rfl, h, by rw [Flat.len] at hj; exact hj, by simp⟩
    · rw [List.getElem?_append_right hj] at h
      obtain ⟨i, y, q, h1, h2, h3, h4⟩ := cells_at xs _ u h
      rw [Flat.len] at hj h4
      exact ⟨i + 1, y, q, by simpa using h1, h2, h3, by rw [Nat.add_mul]; omega⟩

theorem open_rdF {α : Type} [Flat α] {t e : TypeId} {v : Value} {d : DataW H} {p : List MemPlace} {r : Reach} {b0 : Nat} (ht : P.underlying t = some (.slice e)) (hk : P.cellsOf e = Flat.k α) (hpos : 0 < Flat.k α) (hd : Dec enc P W base spare held e α)
    (hv : Value.okWide P W r b0 t v) (h : DataW.Trod enc P W base spare held t v d p) : ∃ xs : List α, RdF W v xs := by
  obtain ⟨A, l, c, rfl⟩ := okWide_slice ht hv
  obtain ⟨fuel, hf⟩ := h
  rcases open_slice ht hf with ⟨hcs, _⟩ | ⟨a, len, cap, m, n, D, Pl, hcs, hb, hl, hm, hmm, _, hx⟩
  · have : A = none ∧ l = 0 ∧ c = 0 := by simpa [Value.cells] using hcs
    obtain ⟨rfl, rfl, rfl⟩ := this
    exact ⟨[], RdF.nil W⟩
  · have : A = some a ∧ l = len ∧ c = cap := by simpa [Value.cells] using hcs
    obtain ⟨rfl, rfl, rfl⟩ := this
    have hlm : l ≤ m := by rw [hmm]; split <;> omega
    obtain ⟨xs, h1, h2⟩ := list_of (fun i (x : α) => W.cells? base (a.add (i * Flat.k α)) (Flat.k α) = some (Flat.f x)) l (fun i hi => by
      obtain ⟨cs', h1, h2⟩ := hx i (by omega)
      obtain ⟨x, rfl⟩ := hd _ _ _ h2
      exact ⟨x, by rw [← hk]; exact h1⟩)
    subst h1
    have hcell : ∀ j u, (cells xs)[j]? = some u → W.cell? (a.add j) = some u := fun j u hj => by
      obtain ⟨i, x, q, g1, g2, g3, rfl⟩ := cells_at xs j u hj
      obtain ⟨_, _, g4⟩ := World.cells?_some (h2 i x g1)
      rw [← Addr.add_add, g4 q g3, g2]
    refine ⟨xs, ⟨⟨some a, c, rfl, hl, hm, fun _ => ⟨a, rfl⟩⟩, cells_length xs, fun hpos' => ?_, hcell⟩⟩
    have hlt : 0 < (cells xs).length := by rw [cells_length]; exact Nat.mul_pos hpos' hpos
    have := hcell 0 _ (List.getElem?_eq_getElem hlt)
    have hb := World.block_lt_of_cell? W _ this
    have hab : (a.add 0).block = a.block := by unfold Addr.add; split <;> rfl
    rw [hab] at hb
    exact hb
end
section
variable {H : Type} {enc : TypeId × Value → H} {P : Program} {W : World} {base : Nat} {spare : Nat → Bool} {held : Bool}
/-- Whatever reads at the type e is the cells of a datum of which Φ is true. -/
def DecP (enc : TypeId × Value → H) (P : Program) (W : World) (base : Nat) (spare : Nat → Bool) (held : Bool) (e : TypeId) (α : Type) [Flat α] (Φ : α → Prop) : Prop :=
  ∀ n cs y, DataW.trod enc P W base spare held n e cs = some y → ∃ x : α, cs = Flat.f x ∧ Φ x
theorem Dec.p {e : TypeId} {α : Type} [Flat α] (h : Dec enc P W base spare held e α) : DecP enc P W base spare held e α (fun _ => True) := fun n cs y hy => by
  obtain ⟨x, hx⟩ := h n cs y hy
  exact ⟨x, hx, trivial⟩
/-- The cells of a slice. -/
theorem open_cellsP {α : Type} [Flat α] {Φ : α → Prop} {t e : TypeId} {n : Nat} {cs : List Value} {y : DataW H × List MemPlace} (ht : P.underlying t = some (.slice e)) (hk : P.cellsOf e = Flat.k α) (hpos : 0 < Flat.k α) (hd : DecP enc P W base spare held e α Φ)
    (hf : DataW.trod enc P W base spare held n t cs = some y) : ∃ (s : Sv) (xs : List α), cs = [.slice s.a s.n s.c] ∧ RdF W (.slice s.a s.n s.c) xs ∧ ∀ x ∈ xs, Φ x := by
  rcases open_slice ht hf with ⟨hcs, _⟩ | ⟨a, l, c, m, n, D, Pl, hcs, hb, hl, hm, hmm, _, hx⟩
  · exact ⟨⟨none, 0, 0⟩, [], hcs, RdF.nil W, fun x h => by cases h⟩
  · have hlm : l ≤ m := by rw [hmm]; split <;> omega
    obtain ⟨xs, h1, h2⟩ := list_of (fun i (x : α) => W.cells? base (a.add (i * Flat.k α)) (Flat.k α) = some (Flat.f x) ∧ Φ x) l (fun i hi => by
      obtain ⟨cs', h1, h2⟩ := hx i (by omega)
      obtain ⟨x, rfl, hΦ⟩ := hd _ _ _ h2
      exact ⟨x, by rw [← hk]; exact h1, hΦ⟩)
    subst h1
    have hcell : ∀ j u, (cells xs)[j]? = some u → W.cell? (a.add j) = some u := fun j u hj => by
      obtain ⟨i, x, q, g1, g2, g3, rfl⟩ := cells_at xs j u hj
      obtain ⟨_, _, g4⟩ := World.cells?_some (h2 i x g1).1
      rw [← Addr.add_add, g4 q g3, g2]
    refine ⟨⟨some a, xs.length, c⟩, xs, hcs, ⟨⟨some a, c, rfl, hl, hm, fun _ => ⟨a, rfl⟩⟩, cells_length xs, fun hpos' => ?_, hcell⟩, fun x hx => ?_⟩
    · have hlt : 0 < (cells xs).length := by rw [cells_length]; exact Nat.mul_pos hpos' hpos
      have := hcell 0 _ (List.getElem?_eq_getElem hlt)
      have hb := World.block_lt_of_cell? W _ this
      have hab : (a.add 0).block = a.block := by unfold Addr.add; split <;> rfl
      rw [hab] at hb
      exact hb
    · obtain ⟨i, hi⟩ := List.getElem?_of_mem hx
      exact (h2 i x hi).2
theorem open_rdP {α : Type} [Flat α] {Φ : α → Prop} {t e : TypeId} {v : Value} {d : DataW H} {p : List MemPlace} {r : Reach} {b0 : Nat} (ht : P.underlying t = some (.slice e)) (hk : P.cellsOf e = Flat.k α) (hpos : 0 < Flat.k α) (hd : DecP enc P W base spare held e α Φ)
    (hv : Value.okWide P W r b0 t v) (h : DataW.Trod enc P W base spare held t v d p) : ∃ xs : List α, RdF W v xs ∧ ∀ x ∈ xs, Φ x := by
  obtain ⟨A, l, c, rfl⟩ := okWide_slice ht hv
  obtain ⟨fuel, hf⟩ := h
  obtain ⟨s, xs, h1, h2, h3⟩ := open_cellsP ht hk hpos hd hf
  have : A = s.a ∧ l = s.n ∧ c = s.c := by simpa [Value.cells] using h1
  obtain ⟨rfl, rfl, rfl⟩ := this
  exact ⟨xs, h2, h3⟩
/-- Rows of which each is told: a list of the data. -/
theorem told_list {α β : Type} (R : α → β → Prop) : ∀ xs : List α, (∀ x ∈ xs, ∃ y, R x y) → ∃ ys : List β, xs.length = ys.length ∧ ∀ (i : Nat) (x : α) (y : β), xs[i]? = some x → ys[i]? = some y → R x y
  | [], _ => ⟨[], rfl, fun i x y h => by simp at h⟩
  | x :: xs, h => by
    obtain ⟨y, hy⟩ := h x List.mem_cons_self
    obtain ⟨ys, h1, h2⟩ := told_list R xs (fun z hz => h z (List.mem_cons_of_mem _ hz))
    refine ⟨y :: ys, by simp [h1], fun i a b ha hb => ?_⟩
    cases i with
    | zero =>
      simp only [List.getElem?_cons_zero, Option.some.injEq] at ha hb
      subst ha; subst hb
      exact hy
    | succ i => exact h2 i a b (by simpa using ha) (by simpa using hb)
end
section
variable {H : Type} {enc : TypeId × Value → H} {P : Program} {W : World} {base : Nat} {spare : Nat → Bool} {held : Bool}
/-- A struct that is handed in: its cells. -/
theorem open_aggL {fs : Array Field} {t : TypeId} {v : Value} {d : DataW H} {p : List MemPlace} {r : Reach} {b0 : Nat} (ht : P.underlying t = some (.struct fs)) (hv : Value.okWide P W r b0 t v) (h : DataW.Trod enc P W base spare held t v d p) : ∃ (cs : List Value) (n : Nat) (y : DataW H × List MemPlace), v = .agg cs.toArray ∧ DataW.trod enc P W base spare held n t cs = some y := by
  obtain ⟨cs, rfl, _⟩ := okWide_struct ht hv
  obtain ⟨fuel, hf⟩ := h
  exact ⟨cs.toList, fuel, _, by simp, hf⟩
end
end E
end Go.Proofs.YtpiiapoafmnhhaaGreat
namespace Go.Proofs.YtpiiapoafmnhhaaGreat
namespace E
open Go.ChangeShapes Go.WideShapes Go.ChangeAt Go.RowKit Go.Joins Go.Deep
set_option linter.unusedVariables false
theorem rowOwn : ownKnob Tryz.prog.godebug = none := by kernel_rfl
theorem rowLaid : laidOutB Tryz.prog = true := by kernel_rfl
section
variable {H : Type} {enc : TypeId × Value → H} {W : World} {base : Nat} {spare : Nat → Bool} {held : Bool}
theorem dstep {cs A : List Value} {o k : Nat} (h : (cs.drop o).take k = A) : cs.drop o = A ++ cs.drop (o + k) := by
  rw [← h, ← List.drop_drop]; exact (List.take_append_drop k (cs.drop o)).symm
theorem split2 {cs A B : List Value} {o0 k0 o1 k1 n : Nat} (e0 : (cs.drop o0).take k0 = A) (e1 : (cs.drop o1).take k1 = B) (hl : cs.length = n) (h0 : o0 = 0) (h1 : o1 = o0 + k0) (hk : o1 + k1 = n) : cs = A ++ B := by
  have s0 := dstep e0
  have s1 := dstep e1
  rw [← h1, s1, h0, List.drop_zero, hk, show cs.drop n = [] from List.drop_eq_nil_of_le (by omega), List.append_nil] at s0
  exact s0
theorem split3 {cs A B C : List Value} {o0 k0 o1 k1 o2 k2 n : Nat} (e0 : (cs.drop o0).take k0 = A) (e1 : (cs.drop o1).take k1 = B) (e2 : (cs.drop o2).take k2 = C) (hl : cs.length = n) (h0 : o0 = 0) (h1 : o1 = o0 + k0) (h2 : o2 = o1 + k1) (hk : o2 + k2 = n) : cs = A ++ (B ++ C) := by
  have s0 := dstep e0
  have s1 := dstep e1
  have s2 := dstep e2
  rw [hk, show cs.drop n = [] from List.drop_eq_nil_of_le (by omega), List.append_nil] at s2
  rw [← h2, s2] at s1
  rw [← h1, s1, h0, List.drop_zero] at s0
  exact s0
theorem split4 {cs A B C D : List Value} {o0 k0 o1 k1 o2 k2 o3 k3 n : Nat} (e0 : (cs.drop o0).take k0 = A) (e1 : (cs.drop o1).take k1 = B) (e2 : (cs.drop o2).take k2 = C) (e3 : (cs.drop o3).take k3 = D) (hl : cs.length = n) (h0 : o0 = 0) (h1 : o1 = o0 + k0) (h2 : o2 = o1 + k1) (h3 : o3 = o2 + k2) (hk : o3 + k3 = n) : cs = A ++ (B ++ (C ++ D)) := by
  have s0 := dstep e0
  have s1 := dstep e1
  have s2 := dstep e2
  have s3 := dstep e3
  rw [hk, show cs.drop n = [] from List.drop_eq_nil_of_le (by omega), List.append_nil] at s3
  rw [← h3, s3] at s2
  rw [← h2, s2] at s1
  rw [← h1, s1, h0, List.drop_zero] at s0
  exact s0
theorem dec_int : Dec enc Tryz.prog W base spare held 3 Int := fun n cs y h => by
  obtain ⟨a, ea, _, _⟩ := DataW.trod_int Tryz.underlying3 h
  exact ⟨a, ea⟩
theorem dec_node : Dec enc Tryz.prog W base spare held 24 Nd := fun n cs y h => by
  obtain ⟨y0, y1, m, _, hl, h0, h1⟩ := trod_struct2 Tryz.underlying24 h
  obtain ⟨a, ea⟩ := dec_int _ _ _ h0
  obtain ⟨b, eb⟩ := dec_int _ _ _ h1
  exact ⟨⟨a, b⟩, split2 ea eb hl rfl (by kernel_rfl) (by kernel_rfl)⟩
theorem dec_page : Dec enc Tryz.prog W base spare held 183 Pg := fun n cs y h => by
  obtain ⟨y0, y1, m, _, hl, h0, h1⟩ := trod_struct2 Tryz.underlying183 h
  obtain ⟨a, ea⟩ := dec_int _ _ _ h0
  obtain ⟨b, eb⟩ := dec_int _ _ _ h1
  exact ⟨⟨a, b⟩, split2 ea eb hl rfl (by kernel_rfl) (by kernel_rfl)⟩
theorem dec_pool : DecP enc Tryz.prog W base spare held 77 PlR (fun x => ∃ p : Pl, x.z = p.z ∧ RdF W (.slice x.s.a x.s.n x.s.c) p.l) := fun n cs y h => by
  obtain ⟨y0, y1, m, _, hl, h0, h1⟩ := trod_struct2 Tryz.underlying77 h
  obtain ⟨a, ea⟩ := dec_int _ _ _ h0
  obtain ⟨s, xs, eb, hr, _⟩ := open_cellsP Tryz.underlying75 (by kernel_rfl) (by decide) (Dec.p dec_page) h1
  exact ⟨⟨a, s⟩, split2 ea eb hl rfl (by kernel_rfl) (by kernel_rfl), ⟨a, xs⟩, rfl, hr⟩
end
end E
end Go.Proofs.YtpiiapoafmnhhaaGreat
