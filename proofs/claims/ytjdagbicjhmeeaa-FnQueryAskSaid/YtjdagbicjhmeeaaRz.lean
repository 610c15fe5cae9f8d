/- What is handed in, read as data: slices of flat data, slices whose elements hold slices, structs (second edition). -/
import Derived.Test.YtjdagbicjhmeeaaDc
import Derived.OpenShut
import Derived.ShutString
import Derived.ChangeOld
import Derived.Lib.SmallJoins
import Derived.Deep.Slices
import Derived.Deep.Strs
import Derived.ProofKit
import Derived.Test.YtjdagbicjhmeeaaJw
import Derived.Test.YtjdagbicjhmeeaaSz
import Derived.Test.YtjdagbicjhmeeaaRows
namespace Go.Proofs.Ytjdagbicjhmeeaa
namespace E
open Go Go.RowKit Go.ChangeShapes Go.WideShapes Go.ChangeAt Go.Joins Go.Deep
set_option linter.unusedVariables false
section
variable {H : Type} {enc : TypeId × Value → H} {P : Program} {W : World} {base : Nat} {spare : Nat → Bool} {held : Bool}

/-- Whatever reads at the type e is the cells of a datum. -/
def Dec (enc : TypeId × Value → H) (P : Program) (W : World) (base : Nat) (spare : Nat → Bool) (held : Bool) (e : TypeId) (α : Type) [Flat α] : Prop :=
  ∀ n cs y, DataW.trod enc P W base spare held n e cs = some y → ∃ x : α, cs = Flat.f x

theorem list_of {α : Type} (p : Nat → α → Prop) : ∀ l : Nat, (∀ i, i < l → ∃ x, p i x) → ∃ xs : List α, xs.length = l ∧ ∀ i x, xs[i]? = some x → p i x
  | 0, _ => ⟨[], rfl, fun i x h => by simp at h⟩
  | l + 1, h => by
    obtain ⟨xs, h1, h2⟩ := list_of p l (fun i hi => h i (by omega))
    obtain ⟨x, hx⟩ := h l (by omega)
    refine ⟨xs ++ [x], by simp [h1], fun i y hy => ?_⟩
    rcases Nat.lt_or_ge i xs.length with hi | hi
    · rw [List.getElem?_append_left hi] at hy
      exact h2 i y hy
    · rw [List.getElem?_append_right hi] at hy
      have h0 : i - xs.length = 0 := by
        rcases Nat.eq_zero_or_pos (i - xs.length) with h0 | h0
        · exact h0
        · rw [List.getElem?_eq_none (by simp; omega)] at hy; cases hy
      rw [h0] at hy
      simp only [List.getElem?_cons_zero, Option.some.injEq] at hy
      subst hy
      have : i = l := by omega
      subst this
      exact hx
theorem cells_at {α : Type} [Flat α] : ∀ (xs : List α) (j : Nat) (u : Value), (cells xs)[j]? = some u → ∃ i x q, xs[i]? = some x ∧ (Flat.f x)[q]? = some u ∧ q < Flat.k α ∧ j = i * Flat.k α + q
  | [], j, u, h => by simp [cells] at h
  | x :: xs, j, u, h => by
    simp only [cells, List.flatMap_cons] at h
    rcases Nat.lt_or_ge j (Flat.f x).length with hj | hj
    · rw [List.getElem?_append_left hj] at h
      exact ⟨0, x, j, rfl, h, by rw [Flat.len] at hj; exact hj, by simp⟩
    · rw [List.getElem?_append_right hj] at h
      obtain ⟨i, y, q, h1, h2, h3, h4⟩ := cells_at xs _ u h
      rw [Flat.len] at hj h4
      exact ⟨i + 1, y, q, by simpa using h1, h2, h3, by rw [Nat.add_mul]; omega⟩

theorem open_rdF {α : Type} [Flat α] {t e : TypeId} {v : Value} {d : DataW H} {p : List MemPlace} {r : Reach} {b0 : Nat} (ht : P.underlying t = some (.slice e)) (hk : P.cellsOf e = Flat.k α) (hpos : 0 < Flat.k α) (hd : Dec enc P W base spare held e α)
    (hv : Value.okWide P W r b0 t v) (h : DataW.Trod enc P W base spare held t v d p) : ∃ xs : List α, RdF W v xs := by
  obtain ⟨A, l, c, rfl⟩ := okWide_slice ht hv
  obtain ⟨fuel, hf⟩ := h
  rcases open_slice ht hf with ⟨hcs, _⟩ | ⟨a, len, cap, m, n, D, Pl, hcs, hb, hl, hm, hmm, _, hx⟩
  · have : A = none ∧ l = 0 ∧ c = 0 := by simpa [Value.cells] using hcs
    obtain ⟨rfl, rfl, rfl⟩ := this
    exact ⟨[], RdF.nil W⟩
  · have : A = some a ∧ l = len ∧ c = cap := by simpa [Value.cells] using hcs
    obtain ⟨rfl, rfl, rfl⟩ := this
    have hlm : l ≤ m := by rw [hmm]; split <;> omega
    obtain ⟨xs, h1, h2⟩ := list_of (fun i (x : α) => W.cells? base (a.add (i * Flat.k α)) (Flat.k α) = some (Flat.f x)) l (fun i hi => by
      obtain ⟨cs', h1, h2⟩ := hx i (by omega)
      obtain ⟨x, rfl⟩ := hd _ _ _ h2
      exact ⟨x, by rw [← hk]; exact h1⟩)
    subst h1
    have hcell : ∀ j u, (cells xs)[j]? = some u → W.cell? (a.add j) = some u := fun j u hj => by
      obtain ⟨i, x, q, g1, g2, g3, rfl⟩ := cells_at xs j u hj
      obtain ⟨_, _, g4⟩ := World.cells?_some (h2 i x g1)
      rw [← Addr.add_add, g4 q g3, g2]
    refine ⟨xs, ⟨⟨some a, c, rfl, hl, hm, fun _ => ⟨a, rfl⟩⟩, cells_length xs, fun hpos' => ?_, hcell⟩⟩
    have hlt : 0 < (cells xs).length := by rw [cells_length]; exact Nat.mul_pos hpos' hpos
    have := hcell 0 _ (List.getElem?_eq_getElem hlt)
    have hb := World.block_lt_of_cell? W _ this
    have hab : (a.add 0).block = a.block := by unfold Addr.add; split <;> rfl
    rw [hab] at hb
    exact hb
end
section
variable {H : Type} {enc : TypeId × Value → H} {P : Program} {W : World} {base : Nat} {spare : Nat → Bool} {held : Bool}
/-- Whatever reads at the type e is the cells of a datum of which Φ is true. -/
def DecP (enc : TypeId × Value → H) (P : Program) (W : World) (base : Nat) (spare : Nat → Bool) (held : Bool) (e : TypeId) (α : Type) [Flat α] (Φ : α → Prop) : Prop :=
  ∀ n cs y, DataW.trod enc P W base spare held n e cs = some y → ∃ x : α, cs = Flat.f x ∧ Φ x
theorem Dec.p {e : TypeId} {α : Type} [Flat α] (h : Dec enc P W base spare held e α) : DecP enc P W base spare held e α (fun _ => True) := fun n cs y hy => by
  obtain ⟨x, hx⟩ := h n cs y hy
  exact ⟨x, hx, trivial⟩
/-- The cells of a slice. -/
theorem open_cellsP {α : Type} [Flat α] {Φ : α → Prop} {t e : TypeId} {n : Nat} {cs : List Value} {y : DataW H × List MemPlace} (ht : P.underlying t = some (.slice e)) (hk : P.cellsOf e = Flat.k α) (hpos : 0 < Flat.k α) (hd : DecP enc P W base spare held e α Φ)
    (hf : DataW.trod enc P W base spare held n t cs = some y) : ∃ (s : Sv) (xs : List α), cs = [.slice s.a s.n s.c] ∧ RdF W (.slice s.a s.n s.c) xs ∧ ∀ x ∈ xs, Φ x := by
  rcases open_slice ht hf with ⟨hcs, _⟩ | ⟨a, l, c, m, n, D, Pl, hcs, hb, hl, hm, hmm, _, hx⟩
  · exact ⟨⟨none, 0, 0⟩, [], hcs, RdF.nil W, fun x h => by cases h⟩
  · have hlm : l ≤ m := by rw [hmm]; split <;> omega
    obtain ⟨xs, h1, h2⟩ := list_of (fun i (x : α) => W.cells? base (a.add (i * Flat.k α)) (Flat.k α) = some (Flat.f x) ∧ Φ x) l (fun i hi => by
      obtain ⟨cs', h1, h2⟩ := hx i (by omega)
      obtain ⟨x, rfl, hΦ⟩ := hd _ _ _ h2
      exact ⟨x, by rw [← hk]; exact h1, hΦ⟩)
    subst h1
    have hcell : ∀ j u, (cells xs)[j]? = some u → W.cell? (a.add j) = some u := fun j u hj => by
      obtain ⟨i, x, q, g1, g2, g3, rfl⟩ := cells_at xs j u hj
      obtain ⟨_, _, g4⟩ := World.cells?_some (h2 i x g1).1
      rw [← Addr.add_add, g4 q g3, g2]
    refine ⟨⟨some a, xs.length, c⟩, xs, hcs, ⟨⟨some a, c, rfl, hl, hm, fun _ => ⟨a, rfl⟩⟩, cells_length xs, fun hpos' => ?_, hcell⟩, fun x hx => ?_⟩
    · have hlt : 0 < (cells xs).length := by rw [cells_length]; exact Nat.mul_pos hpos' hpos
      have := hcell 0 _ (List.getElem?_eq_getElem hlt)
      have hb := World.block_lt_of_cell? W _ this
      have hab : (a.add 0).block = a.block := by unfold Addr.add; split <;> rfl
      rw [hab] at hb
      exact hb
    · obtain ⟨i, hi⟩ := List.getElem?_of_mem hx
      exact (h2 i x hi).2
theorem open_rdP {α : Type} [Flat α] {Φ : α → Prop} {t e : TypeId} {v : Value} {d : DataW H} {p : List MemPlace} {r : Reach} {b0 : Nat} (ht : P.underlying t = some (.slice e)) (hk : P.cellsOf e = Flat.k α) (hpos : 0 < Flat.k α) (hd : DecP enc P W base spare held e α Φ)
    (hv : Value.okWide P W r b0 t v) (h : DataW.Trod enc P W base spare held t v d p) : ∃ xs : List α, RdF W v xs ∧ ∀ x ∈ xs, Φ x := by
  obtain ⟨A, l, c, rfl⟩ := okWide_slice ht hv
  obtain ⟨fuel, hf⟩ := h
  obtain ⟨s, xs, h1, h2, h3⟩ := open_cellsP ht hk hpos hd hf
  have : A = s.a ∧ l = s.n ∧ c = s.c := by simpa [Value.cells] using h1
  obtain ⟨rfl, rfl, rfl⟩ := this
  exact ⟨xs, h2, h3⟩
/-- Rows of which each is told: a list of the data. -/
theorem told_list {α β : Type} (R : α → β → Prop) : ∀ xs : List α, (∀ x ∈ xs, ∃ y, R x y) → ∃ ys : List β, xs.length = ys.length ∧ ∀ (i : Nat) (x : α) (y : β), xs[i]? = some x → ys[i]? = some y → R x y
  | [], _ => ⟨[], rfl, fun i x y h => by simp at h⟩
  | x :: xs, h => by
    obtain ⟨y, hy⟩ := h x List.mem_cons_self
    obtain ⟨ys, h1, h2⟩ := told_list R xs (fun z hz => h z (List.mem_cons_of_mem _ hz))
    refine ⟨y :: ys, by simp [h1], fun i a b ha hb => ?_⟩
    cases i with
    | zero =>
      simp only [List.getElem?_cons_zero, Option.some.injEq] at ha hb
      subst ha; subst hb
      exact hy
    | succ i => exact h2 i a b (by simpa using ha) (by simpa using hb)
end
section
variable {H : Type} {enc : TypeId × Value → H} {P : Program} {W : World} {base : Nat} {spare : Nat → Bool} {held : Bool}
/-- A struct that is handed in: its cells. -/
theorem open_aggL {fs : Array Field} {t : TypeId} {v : Value} {d : DataW H} {p : List MemPlace} {r : Reach} {b0 : Nat} (ht : P.underlying t = some (.struct fs)) (hv : Value.okWide P W r b0 t v) (h : DataW.Trod enc P W base spare held t v d p) : ∃ (cs : List Value) (n : Nat) (y : DataW H × List MemPlace), v = .agg cs.toArray ∧ DataW.trod enc P W base spare held n t cs = some y := by
  obtain ⟨cs, rfl, _⟩ := okWide_struct ht hv
  obtain ⟨fuel, hf⟩ := h
  exact ⟨cs.toList, fuel, _, by simp, hf⟩
end
end E
end Go.Proofs.Ytjdagbicjhmeeaa
/- What reads at the laws' types is data. -/
namespace Go.Proofs.Ytjdagbicjhmeeaa
namespace E
open Go.ChangeShapes Go.WideShapes Go.ChangeAt Go.RowKit Go.Joins Go.Deep
set_option linter.unusedVariables false
theorem rowOwn : ownKnob Try.prog.godebug = none := by kernel_rfl
theorem rowLaid : laidOutB Try.prog = true := by kernel_rfl
section
variable {H : Type} {enc : TypeId × Value → H} {W : World} {base : Nat} {spare : Nat → Bool} {held : Bool}
theorem dstep {cs A : List Value} {o k : Nat} (h : (cs.drop o).take k = A) : cs.drop o = A ++ cs.drop (o + k) := by
  rw [← h, ← List.drop_drop]; exact (List.take_append_drop k (cs.drop o)).symm
theorem split2 {cs A B : List Value} {o0 k0 o1 k1 n : Nat} (e0 : (cs.drop o0).take k0 = A) (e1 : (cs.drop o1).take k1 = B) (hl : cs.length = n) (h0 : o0 = 0) (h1 : o1 = o0 + k0) (hk : o1 + k1 = n) : cs = A ++ B := by
  have s0 := dstep e0
  have s1 := dstep e1
  rw [← h1, s1, h0, List.drop_zero, hk, show cs.drop n = [] from List.drop_eq_nil_of_le (by omega), List.append_nil] at s0
  exact s0
theorem split3 {cs A B C : List Value} {o0 k0 o1 k1 o2 k2 n : Nat} (e0 : (cs.drop o0).take k0 = A) (e1 : (cs.drop o1).take k1 = B) (e2 : (cs.drop o2).take k2 = C) (hl : cs.length = n) (h0 : o0 = 0) (h1 : o1 = o0 + k0) (h2 : o2 = o1 + k1) (hk : o2 + k2 = n) : cs = A ++ (B ++ C) := by
  have s0 := dstep e0
  have s1 := dstep e1
  have s2 := dstep e2
  rw [hk, show cs.drop n = [] from List.drop_eq_nil_of_le (by omega), List.append_nil] at s2
  rw [← h2, s2] at s1
  rw [← h1, s1, h0, List.drop_zero] at s0
  exact s0
theorem split4 {cs A B C D : List Value} {o0 k0 o1 k1 o2 k2 o3 k3 n : Nat} (e0 : (cs.drop o0).take k0 = A) (e1 : (cs.drop o1).take k1 = B) (e2 : (cs.drop o2).take k2 = C) (e3 : (cs.drop o3).take k3 = D) (hl : cs.length = n) (h0 : o0 = 0) (h1 : o1 = o0 + k0) (h2 : o2 = o1 + k1) (h3 : o3 = o2 + k2) (hk : o3 + k3 = n) : cs = A ++ (B ++ (C ++ D)) := by
  have s0 := dstep e0
  have s1 := dstep e1
  have s2 := dstep e2
  have s3 := dstep e3
  rw [hk, show cs.drop n = [] from List.drop_eq_nil_of_le (by omega), List.append_nil] at s3
  rw [← h3, s3] at s2
  rw [← h2, s2] at s1
  rw [← h1, s1, h0, List.drop_zero] at s0
  exact s0
theorem dec_int : Dec enc Try.prog W base spare held 3 Int := fun n cs y h => by
  obtain ⟨a, ea, _, _⟩ := DataW.trod_int Try.underlying3 h
  exact ⟨a, ea⟩
theorem dec_node : Dec enc Try.prog W base spare held 50 Nd := fun n cs y h => by
  obtain ⟨y0, y1, m, _, hl, h0, h1⟩ := trod_struct2 Try.underlying50 h
  obtain ⟨a, ea⟩ := dec_int _ _ _ h0
  obtain ⟨b, eb⟩ := dec_int _ _ _ h1
  exact ⟨⟨a, b⟩, split2 ea eb hl rfl (by kernel_rfl) (by kernel_rfl)⟩
theorem dec_edge : Dec enc Try.prog W base spare held 113 Eg := fun n cs y h => by
  obtain ⟨y0, y1, y2, m, _, hl, h0, h1, h2⟩ := trod_struct3 Try.underlying113 h
  obtain ⟨a, ea⟩ := dec_int _ _ _ h0
  obtain ⟨b, eb⟩ := dec_node _ _ _ h1
  obtain ⟨c, ec⟩ := dec_node _ _ _ h2
  exact ⟨⟨a, b, c⟩, split3 ea eb ec hl rfl (by kernel_rfl) (by kernel_rfl) (by kernel_rfl)⟩
theorem dec_graph {n : Nat} {cs : List Value} {y : DataW H × List MemPlace} (h : DataW.trod enc Try.prog W base spare held n 49 cs = some y) : ∃ (s1 s2 : Sv) (ns : List Nd) (es : List Eg), cs = [.slice s1.a s1.n s1.c, .slice s2.a s2.n s2.c] ∧ RdF W (.slice s1.a s1.n s1.c) ns ∧ RdF W (.slice s2.a s2.n s2.c) es := by
  obtain ⟨y0, y1, m, _, hl, h0, h1⟩ := trod_struct2 Try.underlying49 h
  obtain ⟨s1, ns, ea, hr, _⟩ := open_cellsP Try.underlying46 (by kernel_rfl) (by decide) (Dec.p dec_node) h0
  obtain ⟨s2, es, eb, hq, _⟩ := open_cellsP Try.underlying47 (by kernel_rfl) (by decide) (Dec.p dec_edge) h1
  exact ⟨s1, s2, ns, es, split2 ea eb hl rfl (by kernel_rfl) (by kernel_rfl), hr, hq⟩
end
end E
end Go.Proofs.Ytjdagbicjhmeeaa
/- FnQueryAsk: what is asked of a drawn graph is answered in the right shape. -/
namespace Go.Proofs.Ytjdagbicjhmeeaa
namespace E
open Go Go.RowKit
set_option linter.unusedSimpArgs false
set_option linter.unusedVariables false
set_option maxHeartbeats 1000000
set_option maxRecDepth 10000
attribute [local irreducible] HC HL HQ HX HO At Y YV Opd Opds KnX Sl Ld Src GV RV Calls Code.wp eptr adr RdF ownF OneX HG LdC
theorem c_wpInts {v u : Value} {xs : List Int} (w : World) (hl : xs.length ≤ 1000000) (hr : RdF w v xs := by exact rdA) (hq : RdF w u xs := by exact rdA) : Calls Try.prog 25 #[v, u] w (Ret (fun _ : Unit => .bool true) (fun _ => []) w) := by
  have o1 := hr.one
  have o2 := hq.one
  refine enter (args := _) Try.func25 rfl Try.ntmps25 (by simp) ?_
  repeat' (first | refine E.st ?_ | refine E.q3 ?_ | refine E.q ?_ | refine E.qs ?_ | refine E.q2 ?_ | refine E.q4 ?_ | refine E.tr ?_ | refine E.ap (fun _ _ => ?_) | refine E.b1 (fun _ _ => ?_) | refine E.b0 (fun _ _ => ?_) | refine E.bsn (fun _ _ => ?_) | refine E.mk (fun _ _ => ?_) | refine E.bxO (fun _ => ?_) | refine E.al (fun _ => ?_) | refine E.sbO ?_ | refine E.dq ?_ | refine E.ct ?_ | refine E.cf ?_ | refine E.cs (fun hh => ?_) (fun hh => ?_) | refine E.at_block_other rfl ?_)
  all_goals try (exfalso; omega)
  refine lq (fun k : Nat => k ≤ xs.length) (fun k => [(5, .pl (.int .i64 (k : Int)))]) (fun _ => []) (fun k => xs.length - k) 0 (Nat.zero_le _) (fun k hk => ?_)
  rcases Nat.lt_or_ge k xs.length with hlt | hge
  · obtain ⟨x, hx⟩ := get_lt hlt
    repeat' (first | refine E.st ?_ | refine E.q3 ?_ | refine E.q ?_ | refine E.qs ?_ | refine E.q2 ?_ | refine E.q4 ?_ | refine E.tr ?_ | refine E.ap (fun _ _ => ?_) | refine E.b1 (fun _ _ => ?_) | refine E.b0 (fun _ _ => ?_) | refine E.bsn (fun _ _ => ?_) | refine E.mk (fun _ _ => ?_) | refine E.bxO (fun _ => ?_) | refine E.al (fun _ => ?_) | refine E.sbO ?_ | refine E.dq ?_ | refine E.ct ?_ | refine E.cf ?_ | refine E.cs (fun hh => ?_) (fun hh => ?_) | refine E.at_block_other rfl ?_)
    all_goals first
      | exact rd (k + 1) hlt
      | (exfalso; simp_all; done)
  · repeat' (first | refine E.st ?_ | refine E.q3 ?_ | refine E.q ?_ | refine E.qs ?_ | refine E.q2 ?_ | refine E.q4 ?_ | refine E.tr ?_ | refine E.ap (fun _ _ => ?_) | refine E.b1 (fun _ _ => ?_) | refine E.b0 (fun _ _ => ?_) | refine E.bsn (fun _ _ => ?_) | refine E.mk (fun _ _ => ?_) | refine E.bxO (fun _ => ?_) | refine E.al (fun _ => ?_) | refine E.sbO ?_ | refine E.dq ?_ | refine E.ct ?_ | refine E.cf ?_ | refine E.cs (fun hh => ?_) (fun hh => ?_) | refine E.at_block_other rfl ?_)
    exact rb
theorem c_wpAt {v u : Value} {ns : List Nd} {l n : Int} (w : World) (hl : ns.length ≤ 1000000) (hu : u.oneCell' = true) (hr : RdF w v ns := by exact rdA) : Calls Try.prog 30 #[.agg #[v, u], .agg #[.int .i64 l, .int .i64 n]] w (Ret (fun _ : Unit => .int .i64 (pos ns ⟨l, n⟩)) (fun _ => []) w) := by
  have o1 := hr.one
  refine enter (args := _) Try.func30 rfl Try.ntmps30 (by simp) ?_
  repeat' (first | refine E.st ?_ | refine E.q3 ?_ | refine E.q ?_ | refine E.qs ?_ | refine E.q2 ?_ | refine E.q4 ?_ | refine E.tr ?_ | refine E.ap (fun _ _ => ?_) | refine E.b1 (fun _ _ => ?_) | refine E.b0 (fun _ _ => ?_) | refine E.bsn (fun _ _ => ?_) | refine E.mk (fun _ _ => ?_) | refine E.bxO (fun _ => ?_) | refine E.al (fun _ => ?_) | refine E.sbO ?_ | refine E.dq ?_ | refine E.ct ?_ | refine E.cf ?_ | refine E.cs (fun hh => ?_) (fun hh => ?_) | refine E.at_block_other rfl ?_)
  refine lq (fun k : Nat => k ≤ ns.length ∧ ∀ y ∈ ns.take k, y ≠ (⟨l, n⟩ : Nd)) (fun k => [(5, .pl (.int .i64 (k : Int)))]) (fun _ => []) (fun k => ns.length - k) 0 ⟨Nat.zero_le _, by simp⟩ (fun k hk => ?_)
  obtain ⟨hk1, hno⟩ := hk
  rcases Nat.lt_or_ge k ns.length with hlt | hge
  · obtain ⟨⟨xl, xn⟩, hx⟩ := get_lt hlt
    by_cases he : (⟨xl, xn⟩ : Nd) = ⟨l, n⟩
    · have hp := pos_some (he ▸ hx) hno
      rw [hp]
      injection he with e1 e2
      subst e1 e2
      repeat' (first | refine E.st ?_ | refine E.q3 ?_ | refine E.q ?_ | refine E.qs ?_ | refine E.q2 ?_ | refine E.q4 ?_ | refine E.tr ?_ | refine E.ap (fun _ _ => ?_) | refine E.b1 (fun _ _ => ?_) | refine E.b0 (fun _ _ => ?_) | refine E.bsn (fun _ _ => ?_) | refine E.mk (fun _ _ => ?_) | refine E.bxO (fun _ => ?_) | refine E.al (fun _ => ?_) | refine E.sbO ?_ | refine E.dq ?_ | refine E.ct ?_ | refine E.cf ?_ | refine E.cs (fun hh => ?_) (fun hh => ?_) | refine E.at_block_other rfl ?_)
      all_goals first
        | exact ri rfl
        | (exfalso; simp_all; done)
    · have he' : ¬ ([xl, xn] = [l, n]) := fun h => by simp only [List.cons.injEq, and_true] at h; exact he (by rw [h.1, h.2])
      repeat' (first | refine E.st ?_ | refine E.q3 ?_ | refine E.q ?_ | refine E.qs ?_ | refine E.q2 ?_ | refine E.q4 ?_ | refine E.tr ?_ | refine E.ap (fun _ _ => ?_) | refine E.b1 (fun _ _ => ?_) | refine E.b0 (fun _ _ => ?_) | refine E.bsn (fun _ _ => ?_) | refine E.mk (fun _ _ => ?_) | refine E.bxO (fun _ => ?_) | refine E.al (fun _ => ?_) | refine E.sbO ?_ | refine E.dq ?_ | refine E.ct ?_ | refine E.cf ?_ | refine E.cs (fun hh => ?_) (fun hh => ?_) | refine E.at_block_other rfl ?_)
      all_goals first
        | (refine rd (k + 1) ⟨hlt, fun y hy => ?_⟩
           rw [List.take_add_one, hx] at hy
           rcases List.mem_append.1 hy with h | h
           · exact hno y h
           · simp only [Option.toList_some, List.mem_singleton] at h
             rw [h]; exact he)
        | (exfalso; simp_all; done)
  · rw [List.take_of_length_le hge] at hno
    rw [pos_none (fun h => hno _ h rfl)]
    repeat' (first | refine E.st ?_ | refine E.q3 ?_ | refine E.q ?_ | refine E.qs ?_ | refine E.q2 ?_ | refine E.q4 ?_ | refine E.tr ?_ | refine E.ap (fun _ _ => ?_) | refine E.b1 (fun _ _ => ?_) | refine E.b0 (fun _ _ => ?_) | refine E.bsn (fun _ _ => ?_) | refine E.mk (fun _ _ => ?_) | refine E.bxO (fun _ => ?_) | refine E.al (fun _ => ?_) | refine E.sbO ?_ | refine E.dq ?_ | refine E.ct ?_ | refine E.cf ?_ | refine E.cs (fun hh => ?_) (fun hh => ?_) | refine E.at_block_other rfl ?_)
    exact ri rfl
theorem near_nil {g : Gr} (h : g.ok) {x : Nd} (hx : x ∉ g.ns) : nearL g.es x = [] := by
  cases hn : nearL g.es x with
  | nil => rfl
  | cons y ys => exact absurd (near_mem_ns h (n := x) (x := y) (by rw [hn]; exact List.mem_cons_self)).2.1 hx
set_option maxHeartbeats 4000000 in
theorem c_law_QueryShape {v : Value} {xs : List UInt8} (w : World) (hr : RdF w v xs) : Calls Try.prog 6 #[v] w (Ret (fun _ : Unit => .bool true) (fun _ => []) w) := by
  have o1 := hr.one
  by_cases hcode : 1048576 < xs.length
  · refine enter (args := _) Try.func6 rfl Try.ntmps6 (by simp) ?_
    repeat' (first | refine E.st ?_ | refine E.q3 ?_ | refine E.q ?_ | refine E.qs ?_ | refine E.q2 ?_ | refine E.q4 ?_ | refine E.tr ?_ | refine E.ap (fun _ _ => ?_) | refine E.b1 (fun _ _ => ?_) | refine E.b0 (fun _ _ => ?_) | refine E.bsn (fun _ _ => ?_) | refine E.mk (fun _ _ => ?_) | refine E.bxO (fun _ => ?_) | refine E.al (fun _ => ?_) | refine E.sbO ?_ | refine E.dq ?_ | refine E.ct ?_ | refine E.cf ?_ | refine E.cs (fun hh => ?_) (fun hh => ?_) | refine E.at_block_other rfl ?_)
    all_goals first
      | exact rb
      | (exfalso; omega)
  refine enter (args := _) Try.func6 rfl Try.ntmps6 (by simp) ?_
  repeat' (first | refine E.st ?_ | refine E.al (fun _ => ?_) | refine E.cm (h := fun w hw => c_DrawQueryAsk w (hr.now hw)) (k := fun z => E.wy z.2 (fun hz => E.wy (cut_one' (n := z.1.2.1.ns.length) (b := z.1.2.2.1) z.1.1.1.2) (fun h7 => E.wy z.1.1.2.2 (fun h8 => E.wy (cut_rd (List.mem_singleton.2 rfl) z.2.2.2 : RdIn w [ownF 29 z.1.1.1.1 z.1.2.1.ns] (cutV z.1.2.2.1 z.1.1.1.1 z.1.2.1.ns.length) (cutN z.1.2.2.1 z.1.2.1.ns)) (fun h9 => ?_))))) | refine E.q3 ?_ | refine E.q ?_ | refine E.qs ?_ | refine E.q2 ?_ | refine E.q4 ?_ | refine E.tr ?_ | refine E.ap (fun _ _ => ?_) | refine E.b1 (fun _ _ => ?_) | refine E.b0 (fun _ _ => ?_) | refine E.bsn (fun _ _ => ?_) | refine E.mk (fun _ _ => ?_) | refine E.bxO (fun _ => ?_) | refine E.al (fun _ => ?_) | refine E.sbO ?_ | refine E.dq ?_ | refine E.ct ?_ | refine E.cf ?_ | refine E.cs (fun hh => ?_) (fun hh => ?_) | refine E.at_block_other rfl ?_)
  obtain ⟨⟨⟨⟨vN, hvN⟩, ⟨vE, hvE⟩⟩, ⟨ms, es⟩, b, ⟨k, ⟨l, n⟩⟩⟩, hz0⟩ := z
  dsimp only at *
  have hns : (cutN b ms).length ≤ 1010 := by
    unfold cutN
    split
    · rw [List.length_drop]; omega
    · omega
  generalize cutV b vN ms.length = vC at *
  generalize cutN b ms = ns at *
  have hal := ask_len ⟨ns, es⟩ ⟨k, ⟨l, n⟩⟩
  have hi : ∀ w', RdF w' vC ns → RdF w' vE es → Calls Try.prog 18 #[.agg #[vC, vE], .agg #[.int .i64 k, .int .i64 l, .int .i64 n]] w' (Ret (fun z : V1 => z.1) (fun z => [ownF 3 z.1 (askL ⟨ns, es⟩ ⟨k, ⟨l, n⟩⟩)]) w') := fun w' h1 h2 => c_i_Ask (g := ⟨ns, es⟩) w' h1 h2
  have hs : ∀ w', RdF w' vC ns → RdF w' vE es → Calls Try.prog 15 #[.agg #[vC, vE], .agg #[.int .i64 k, .int .i64 l, .int .i64 n]] w' (Ret (fun z : V1 => z.1) (fun z => [ownF 3 z.1 (askL ⟨ns, es⟩ ⟨k, ⟨l, n⟩⟩)]) w') := fun w' h1 h2 => c_s_QueryAsk (g := ⟨ns, es⟩) w' h1 h2
  by_cases hqf : qok ⟨k, ⟨l, n⟩⟩ = false
  · have hA : askL ⟨ns, es⟩ ⟨k, ⟨l, n⟩⟩ = [] := if_neg (fun h => by rw [hqf] at h; exact absurd h.2 (by decide))
    generalize askL ⟨ns, es⟩ ⟨k, ⟨l, n⟩⟩ = A at *
    subst hA
    repeat' (first | refine E.st ?_ | refine E.dxa [0, 1, 2, 3, 4, 5, 6, 7, 9, 8, 10, 11, 12] ?_ | refine E.cm (h := fun w hw => hi w (RdIn.att h9 hw) (RdF.ofK hw)) (k := fun za => E.wy za.2 (fun ha => ?_)) | refine E.cm (h := fun w hw => hs w (RdIn.att h9 hw) (RdF.ofK hw)) (k := fun za => E.wy za.2 (fun ha => ?_)) | refine E.cl (h := fun _ w hw => c_wpInts (xs := []) w (by simp)) (k := ?_) | refine E.cl (h := fun _ w _ => c_i_QueryOk_f w hqf) (k := ?_) | refine E.cl (h := fun _ w _ => c_s_QueryOk_f w hqf) (k := ?_) | refine E.cl (h := fun _ w hw => c_s_GraphOk w (RdIn.att h9 hw) (RdF.ofK hw)) (k := ?_) | refine E.q3 ?_ | refine E.q ?_ | refine E.qs ?_ | refine E.q2 ?_ | refine E.q4 ?_ | refine E.tr ?_ | refine E.ap (fun _ _ => ?_) | refine E.b1 (fun _ _ => ?_) | refine E.b0 (fun _ _ => ?_) | refine E.bsn (fun _ _ => ?_) | refine E.mk (fun _ _ => ?_) | refine E.bxO (fun _ => ?_) | refine E.al (fun _ => ?_) | refine E.sbO ?_ | refine E.dq ?_ | refine E.ct ?_ | refine E.cf ?_ | refine E.cs (fun hh => ?_) (fun hh => ?_) | refine E.at_block_other rfl ?_)
    all_goals first
      | exact rb
      | (refine rb ?_; simp; done)
      | (exfalso; simp_all; done)
      | (exfalso; omega)
  have hq : qok ⟨k, ⟨l, n⟩⟩ = true := by simpa using hqf
  by_cases hg : ¬ (⟨ns, es⟩ : Gr).ok
  · have hgf := gok_f hg
    have hA : askL ⟨ns, es⟩ ⟨k, ⟨l, n⟩⟩ = [] := if_neg (fun h => hg h.1)
    generalize askL ⟨ns, es⟩ ⟨k, ⟨l, n⟩⟩ = A at *
    subst hA
    repeat' (first | refine E.st ?_ | refine E.dxa [0, 1, 2, 3, 4, 5, 6, 7, 9, 8, 10, 11, 12] ?_ | refine E.cm (h := fun w hw => hi w (RdIn.att h9 hw) (RdF.ofK hw)) (k := fun za => E.wy za.2 (fun ha => ?_)) | refine E.cm (h := fun w hw => hs w (RdIn.att h9 hw) (RdF.ofK hw)) (k := fun za => E.wy za.2 (fun ha => ?_)) | refine E.cl (h := fun _ w hw => c_wpInts (xs := []) w (by simp)) (k := ?_) | refine E.cl (h := fun _ w _ => c_i_QueryOk_t w hq) (k := ?_) | refine E.cl (h := fun _ w _ => c_s_QueryOk_t w hq) (k := ?_) | refine E.cl (h := fun _ w hw => c_s_GraphOk_f w hgf (RdIn.att h9 hw) (RdF.ofK hw)) (k := ?_) | refine E.q3 ?_ | refine E.q ?_ | refine E.qs ?_ | refine E.q2 ?_ | refine E.q4 ?_ | refine E.tr ?_ | refine E.ap (fun _ _ => ?_) | refine E.b1 (fun _ _ => ?_) | refine E.b0 (fun _ _ => ?_) | refine E.bsn (fun _ _ => ?_) | refine E.mk (fun _ _ => ?_) | refine E.bxO (fun _ => ?_) | refine E.al (fun _ => ?_) | refine E.sbO ?_ | refine E.dq ?_ | refine E.ct ?_ | refine E.cf ?_ | refine E.cs (fun hh => ?_) (fun hh => ?_) | refine E.at_block_other rfl ?_)
    all_goals first
      | exact rb
      | (refine rb ?_; simp; done)
      | (exfalso; simp_all; done)
      | (exfalso; omega)
  have hg := Classical.not_not.1 hg
  have hgt := gok_t hg
  have hask : askL ⟨ns, es⟩ ⟨k, ⟨l, n⟩⟩ = askG ⟨ns, es⟩ ⟨k, ⟨l, n⟩⟩ := if_pos ⟨hg, hq⟩
  by_cases h4 : k = 4
  · subst h4
    have hA : askL ⟨ns, es⟩ ⟨4, ⟨l, n⟩⟩ = [(threesL (adjL ⟨ns, es⟩) : Int)] := by rw [hask]; rfl
    have hw3 : ∀ w, RdF w vC ns → RdF w vE es → Calls Try.prog 29 #[.agg #[vC, vE]] w (Ret (fun _ : Unit => .int .i64 (threesL (adjL ⟨ns, es⟩) : Int)) (fun _ => []) w) := fun w h1 h2 => by
      have := c_i_WalkThrees (near_of graphNear) (g := ⟨ns, es⟩) w h1 h2
      rwa [if_pos hg] at this
    clear hask
    generalize ((threesL (adjL ⟨ns, es⟩) : Nat) : Int) = T at *
    generalize askL ⟨ns, es⟩ ⟨4, ⟨l, n⟩⟩ = A at *
    subst hA
    have hA0 : [T][0]? = some T := rfl
    have hAl : [T].length = 1 := rfl
    repeat' (first | refine E.st ?_ | refine E.dxa [0, 1, 2, 3, 4, 5, 6, 7, 9, 8, 10, 11, 12] ?_ | refine E.dxa [0, 1, 2, 3, 4, 5, 6, 7, 8, 9, 10, 11] ?_ | refine E.cm (h := fun w hw => hi w (RdIn.att h9 hw) (RdF.ofK hw)) (k := fun za => E.wy za.2 (fun ha => ?_)) | refine E.cm (h := fun w hw => hs w (RdIn.att h9 hw) (RdF.ofK hw)) (k := fun za => E.wy za.2 (fun ha => ?_)) | refine E.cl (h := fun _ w hw => c_wpInts (xs := [T]) w (by simp)) (k := ?_) | refine E.cl (h := fun _ w _ => c_i_QueryOk_t w hq) (k := ?_) | refine E.cl (h := fun _ w _ => c_s_QueryOk_t w hq) (k := ?_) | refine E.cl (h := fun _ w hw => c_s_GraphOk_t w hgt (RdIn.att h9 hw) (RdF.ofK hw)) (k := ?_) | refine E.cl (h := fun _ w hw => hw3 w (RdIn.att h9 hw) (RdF.ofK hw)) (k := ?_) | refine E.q3 ?_ | refine E.q ?_ | refine E.qs ?_ | refine E.q2 ?_ | refine E.q4 ?_ | refine E.tr ?_ | refine E.ap (fun _ _ => ?_) | refine E.b1 (fun _ _ => ?_) | refine E.b0 (fun _ _ => ?_) | refine E.bsn (fun _ _ => ?_) | refine E.mk (fun _ _ => ?_) | refine E.bxO (fun _ => ?_) | refine E.al (fun _ => ?_) | refine E.sbO ?_ | refine E.dq ?_ | refine E.ct ?_ | refine E.cf ?_ | refine E.cs (fun hh => ?_) (fun hh => ?_) | refine E.at_block_other rfl ?_)
    all_goals first
        | exact rb
        | (refine rb ?_; simp; done)
        | (refine rb ?_; simp; omega)
        | (exfalso; omega)
        | (exfalso; simp_all; done)
        | (exfalso; simp_all; omega)
        | trace_state
  by_cases h3 : k = 3
  · subst h3
    have hlen : (askL ⟨ns, es⟩ ⟨3, ⟨l, n⟩⟩).length = ns.length := by rw [hask]; exact coreL_len
    clear hask
    generalize askL ⟨ns, es⟩ ⟨3, ⟨l, n⟩⟩ = A at *
    repeat' (first | refine E.st ?_ | refine E.dxa [0, 1, 2, 3, 4, 5, 6, 7, 9, 8, 10, 11, 12] ?_ | refine E.dxa [0, 1, 2, 3, 4, 5, 6, 7, 8, 9, 10, 11] ?_ | refine E.cm (h := fun w hw => hi w (RdIn.att h9 hw) (RdF.ofK hw)) (k := fun za => E.wy za.2 (fun ha => ?_)) | refine E.cm (h := fun w hw => hs w (RdIn.att h9 hw) (RdF.ofK hw)) (k := fun za => E.wy za.2 (fun ha => ?_)) | refine E.cl (h := fun _ w hw => c_wpInts (xs := A) w (by omega)) (k := ?_) | refine E.cl (h := fun _ w _ => c_i_QueryOk_t w hq) (k := ?_) | refine E.cl (h := fun _ w _ => c_s_QueryOk_t w hq) (k := ?_) | refine E.cl (h := fun _ w hw => c_s_GraphOk_t w hgt (RdIn.att h9 hw) (RdF.ofK hw)) (k := ?_) | refine E.q3 ?_ | refine E.q ?_ | refine E.qs ?_ | refine E.q2 ?_ | refine E.q4 ?_ | refine E.tr ?_ | refine E.ap (fun _ _ => ?_) | refine E.b1 (fun _ _ => ?_) | refine E.b0 (fun _ _ => ?_) | refine E.bsn (fun _ _ => ?_) | refine E.mk (fun _ _ => ?_) | refine E.bxO (fun _ => ?_) | refine E.al (fun _ => ?_) | refine E.sbO ?_ | refine E.dq ?_ | refine E.ct ?_ | refine E.cf ?_ | refine E.cs (fun hh => ?_) (fun hh => ?_) | refine E.at_block_other rfl ?_)
    all_goals first
        | exact rb
        | (refine rb ?_; simp; done)
        | (refine rb ?_; simp; omega)
        | (exfalso; omega)
        | (exfalso; simp_all; done)
        | (exfalso; simp_all; omega)
        | trace_state
  by_cases hm : (⟨l, n⟩ : Nd) ∈ ns
  · have hwp : ∀ w, RdF w vC ns → Calls Try.prog 30 #[.agg #[vC, vE], .agg #[.int .i64 l, .int .i64 n]] w (Ret (fun _ : Unit => .int .i64 ((plc ns ⟨l, n⟩ : Nat) : Int)) (fun _ => []) w) := fun w h1 => by
      have := c_wpAt (l := l) (n := n) w (by omega) hvE h1
      rwa [(plc_ok hm).1] at this
    have hpl := (plc_ok hm).2.2
    by_cases h2 : k = 2
    · subst h2
      have hA : askL ⟨ns, es⟩ ⟨2, ⟨l, n⟩⟩ = distL ⟨ns, es⟩ ⟨l, n⟩ := by rw [hask]; rfl
      have hlen : (askL ⟨ns, es⟩ ⟨2, ⟨l, n⟩⟩).length = ns.length := by rw [hA]; exact distL_len hg hm
      have h0 : (askL ⟨ns, es⟩ ⟨2, ⟨l, n⟩⟩)[plc ns ⟨l, n⟩]? = some 0 := by rw [hA]; exact distL_zero hg hm
      clear hask hA
      generalize askL ⟨ns, es⟩ ⟨2, ⟨l, n⟩⟩ = A at *
      generalize plc ns ⟨l, n⟩ = P at *
      repeat' (first | refine E.st ?_ | refine E.dxa [0, 1, 2, 3, 4, 5, 6, 7, 9, 8, 10, 11, 12] ?_ | refine E.dxa [0, 1, 2, 3, 4, 5, 6, 7, 8, 9, 10, 11] ?_ | refine E.cm (h := fun w hw => hi w (RdIn.att h9 hw) (RdF.ofK hw)) (k := fun za => E.wy za.2 (fun ha => ?_)) | refine E.cm (h := fun w hw => hs w (RdIn.att h9 hw) (RdF.ofK hw)) (k := fun za => E.wy za.2 (fun ha => ?_)) | refine E.cl (h := fun _ w hw => c_wpInts (xs := A) w (by omega)) (k := ?_) | refine E.cl (h := fun _ w _ => c_i_QueryOk_t w hq) (k := ?_) | refine E.cl (h := fun _ w _ => c_s_QueryOk_t w hq) (k := ?_) | refine E.cl (h := fun _ w hw => c_s_GraphOk_t w hgt (RdIn.att h9 hw) (RdF.ofK hw)) (k := ?_) | refine E.cl (h := fun _ w hw => hwp w (RdIn.att h9 hw)) (k := ?_) | refine E.q3 ?_ | refine E.q ?_ | refine E.qs ?_ | refine E.q2 ?_ | refine E.q4 ?_ | refine E.tr ?_ | refine E.ap (fun _ _ => ?_) | refine E.b1 (fun _ _ => ?_) | refine E.b0 (fun _ _ => ?_) | refine E.bsn (fun _ _ => ?_) | refine E.mk (fun _ _ => ?_) | refine E.bxO (fun _ => ?_) | refine E.al (fun _ => ?_) | refine E.sbO ?_ | refine E.dq ?_ | refine E.ct ?_ | refine E.cf ?_ | refine E.cs (fun hh => ?_) (fun hh => ?_) | refine E.at_block_other rfl ?_)
      all_goals first
          | exact rb
          | (refine rb ?_; simp; done)
          | (refine rb ?_; simp; omega)
          | (exfalso; omega)
          | (exfalso; simp_all; done)
          | (exfalso; simp_all; omega)
          | trace_state
    · have h1 : k = 1 := by
        unfold qok at hq
        dsimp only at hq
        split at hq
        · omega
        · split at hq
          · omega
          · cases hq
      subst h1
      have hlen : (askL ⟨ns, es⟩ ⟨1, ⟨l, n⟩⟩).length = (nearL es ⟨l, n⟩).length := by rw [hask]; unfold askG; rw [if_pos rfl]; exact List.length_map _
      have hgn : ∀ w, RdF w vC ns → RdF w vE es → Calls Try.prog 31 #[.agg #[vC, vE], .agg #[.int .i64 l, .int .i64 n]] w (Ret (fun z : V1 => z.1) (fun z => [ownF 29 z.1 (nearL es ⟨l, n⟩)]) w) := fun w h1 h2 => graphNear (g := ⟨ns, es⟩) w hg h1 h2
      have hnl := near_len es ⟨l, n⟩
      clear hask
      generalize askL ⟨ns, es⟩ ⟨1, ⟨l, n⟩⟩ = A at *
      generalize plc ns ⟨l, n⟩ = P at *
      repeat' (first | refine E.st ?_ | refine E.dxa [0, 1, 2, 3, 4, 5, 6, 7, 9, 8, 10, 11, 12] ?_ | refine E.dxa [0, 1, 2, 3, 4, 5, 6, 7, 8, 9, 10, 11] ?_ | refine E.cm (h := fun w hw => hi w (RdIn.att h9 hw) (RdF.ofK hw)) (k := fun za => E.wy za.2 (fun ha => ?_)) | refine E.cm (h := fun w hw => hs w (RdIn.att h9 hw) (RdF.ofK hw)) (k := fun za => E.wy za.2 (fun ha => ?_)) | refine E.cl (h := fun _ w hw => c_wpInts (xs := A) w (by omega)) (k := ?_) | refine E.cl (h := fun _ w _ => c_i_QueryOk_t w hq) (k := ?_) | refine E.cl (h := fun _ w _ => c_s_QueryOk_t w hq) (k := ?_) | refine E.cl (h := fun _ w hw => c_s_GraphOk_t w hgt (RdIn.att h9 hw) (RdF.ofK hw)) (k := ?_) | refine E.cl (h := fun _ w hw => hwp w (RdIn.att h9 hw)) (k := ?_) | refine E.cm (h := fun w hw => hgn w (RdIn.att h9 hw) (RdF.ofK hw)) (k := fun zb => E.wy zb.2 (fun hb => ?_)) | refine E.q3 ?_ | refine E.q ?_ | refine E.qs ?_ | refine E.q2 ?_ | refine E.q4 ?_ | refine E.tr ?_ | refine E.ap (fun _ _ => ?_) | refine E.b1 (fun _ _ => ?_) | refine E.b0 (fun _ _ => ?_) | refine E.bsn (fun _ _ => ?_) | refine E.mk (fun _ _ => ?_) | refine E.bxO (fun _ => ?_) | refine E.al (fun _ => ?_) | refine E.sbO ?_ | refine E.dq ?_ | refine E.ct ?_ | refine E.cf ?_ | refine E.cs (fun hh => ?_) (fun hh => ?_) | refine E.at_block_other rfl ?_)
      all_goals first
          | exact rb
          | (refine rb ?_; simp; done)
          | (refine rb ?_; simp; omega)
          | (exfalso; omega)
          | (exfalso; simp_all; done)
          | (exfalso; simp_all; omega)
          | trace_state
  · have hwp : ∀ w, RdF w vC ns → Calls Try.prog 30 #[.agg #[vC, vE], .agg #[.int .i64 l, .int .i64 n]] w (Ret (fun _ : Unit => .int .i64 (-1)) (fun _ => []) w) := fun w h1 => by
      have := c_wpAt (l := l) (n := n) w (by omega) hvE h1
      rwa [pos_none hm] at this
    have hlen : (askL ⟨ns, es⟩ ⟨k, ⟨l, n⟩⟩).length = 0 := by
      rw [hask]
      unfold askG
      dsimp only
      by_cases h1 : k = 1
      · rw [if_pos h1, near_nil hg hm]; rfl
      · rw [if_neg h1]
        by_cases h2 : k = 2
        · rw [if_pos h2]
          have : distL ⟨ns, es⟩ ⟨l, n⟩ = [] := if_neg hm
          rw [this]; rfl
        · exfalso
          unfold qok at hq
          dsimp only at hq
          split at hq
          · omega
          · split at hq
            · omega
            · cases hq
    clear hask
    generalize askL ⟨ns, es⟩ ⟨k, ⟨l, n⟩⟩ = A at *
    repeat' (first | refine E.st ?_ | refine E.dxa [0, 1, 2, 3, 4, 5, 6, 7, 9, 8, 10, 11, 12] ?_ | refine E.dxa [0, 1, 2, 3, 4, 5, 6, 7, 8, 9, 10, 11] ?_ | refine E.cm (h := fun w hw => hi w (RdIn.att h9 hw) (RdF.ofK hw)) (k := fun za => E.wy za.2 (fun ha => ?_)) | refine E.cm (h := fun w hw => hs w (RdIn.att h9 hw) (RdF.ofK hw)) (k := fun za => E.wy za.2 (fun ha => ?_)) | refine E.cl (h := fun _ w hw => c_wpInts (xs := A) w (by omega)) (k := ?_) | refine E.cl (h := fun _ w _ => c_i_QueryOk_t w hq) (k := ?_) | refine E.cl (h := fun _ w _ => c_s_QueryOk_t w hq) (k := ?_) | refine E.cl (h := fun _ w hw => c_s_GraphOk_t w hgt (RdIn.att h9 hw) (RdF.ofK hw)) (k := ?_) | refine E.cl (h := fun _ w hw => hwp w (RdIn.att h9 hw)) (k := ?_) | refine E.q3 ?_ | refine E.q ?_ | refine E.qs ?_ | refine E.q2 ?_ | refine E.q4 ?_ | refine E.tr ?_ | refine E.ap (fun _ _ => ?_) | refine E.b1 (fun _ _ => ?_) | refine E.b0 (fun _ _ => ?_) | refine E.bsn (fun _ _ => ?_) | refine E.mk (fun _ _ => ?_) | refine E.bxO (fun _ => ?_) | refine E.al (fun _ => ?_) | refine E.sbO ?_ | refine E.dq ?_ | refine E.ct ?_ | refine E.cf ?_ | refine E.cs (fun hh => ?_) (fun hh => ?_) | refine E.at_block_other rfl ?_)
    all_goals first
        | exact rb
        | (refine rb ?_; exact decide_eq_true (by omega))
        | (refine rb ?_; simp; done)
        | (refine rb ?_; simp; omega)
        | (exfalso; omega)
        | (exfalso; simp_all; done)
        | (exfalso; simp_all; omega)
        | trace_state
end E
end Go.Proofs.Ytjdagbicjhmeeaa
/- FnQueryAsk: whatever is drawn, what is asked of a graph is answered in the right shape, and as the reference answers. No condition. -/
namespace Go.Proofs.Ytjdagbicjhmeeaa
namespace E
open Go.ChangeShapes Go.WideShapes Go.ChangeAt Go.RowKit Go.Joins Go.Deep
theorem dec_u8 {H : Type} {enc : TypeId × Value → H} {W : World} {base : Nat} {spare : Nat → Bool} {held : Bool} : Dec enc Try.prog W base spare held 5 UInt8 := fun n cs y h => by
  obtain ⟨a, ea, _, wa⟩ := DataW.trod_int Try.underlying5 h
  refine ⟨UInt8.ofNat a.toNat, ?_⟩
  have h1 : 0 ≤ a ∧ a < 256 := by
    have h2 : IntKind.u8.min = 0 := rfl
    have h3 : IntKind.u8.max = 255 := rfl
    simp only [Lit.wf, Bool.and_eq_true, decide_eq_true_eq, h2, h3] at wa
    omega
  rw [ea]
  show _ = [Value.int .u8 _]
  congr 2
  simp only [UInt8.toNat_ofNat']
  omega
end E
namespace RowQb
open Go.ChangeShapes Go.WideShapes Go.ChangeAt Go.RowKit Go.Joins
set_option linter.unusedVariables false
set_option maxRecDepth 100000 in
theorem lifted (os : Os) (started : os.Started) (H : Type) (enc : TypeId × Value → H) :
    ReturnsInHanded {} Try.checked os 6 .any (Rows.fnQueryAskSpec.pre6 enc Try.prog Try.f6 Rows.fnQueryAskRow.domain false) (Rows.fnQueryAskSpec.post enc Try.prog Try.f6 false true false false) := by
  refine returnsInHanded_of_change (C := Try.checked) E.rowOwn started (by kernel_rfl) Try.func6
    (ChangeSpec.witness6 (enc := enc) (C := Try.checked) false ⟨#[], #[.slice none 0 0], []⟩ 8 (by kernel_rfl) (by kernel_rfl) (by kernel_rfl) (by kernel_rfl)) ?_
  intro W base args ds gs before hval0 hW hcnd _
  have hval : ∀ (j : Nat) t v, Try.f6.params[j]? = some t → args[j]? = some v → Value.okWide Try.prog W .any base t v := hval0
  have hW' := hW
  obtain ⟨p, q, hA0, hV, rfl, hfz, hnd⟩ := hW
  have hA : DataW.TrodAll enc Try.prog W 0 (fun _ => true) true Try.f6.params.toList args.toList ds p := hA0
  rw [Try.params6] at hA hval
  obtain ⟨v0, vs0, d0, ds0, p0, q0, hargs, rfl, rfl, h0, r0⟩ := trodAll_cons hA
  obtain ⟨rfl, rfl, rfl⟩ := trodAll_nil r0
  obtain rfl : args = #[v0] := by cases args; simp_all
  obtain ⟨rfl, rfl⟩ := trodVars_none hV
  have k0 := h0
  have lt0 : ∀ x ∈ p0, x.block < W.heap.size := by obtain ⟨m, hm⟩ := k0; exact DataW.trod_lt m _ _ _ hm
  obtain ⟨xs, r0'⟩ := E.open_rdF (α := UInt8) Try.underlying22 (by kernel_rfl) (by decide) E.dec_u8 (hval 0 22 v0 rfl rfl) h0
  clear hA0 hval0
  refine (E.c_law_QueryShape W r0').mono fun e W' ⟨_, he, bel0⟩ => ?_
  have bel := bel0.below
  subst he
  exact ⟨_, rfl, _, _, _, [], _, [], hW', trodAll_mk1 (shut_bool Try.underlying4 _), (trodAll_cons_mk (Below.trod E.rowLaid (by kernel_rfl) (of_decide_eq_true (by kernel_rfl)) k0 bel lt0) trodAll_mk0), rfl, bel.frame _, fun h => by cases h⟩
theorem over : Rows.fnQueryAskRow.holds Try.pinned (OpenSpec.ofChange Rows.fnQueryAskSpec) :=
  OpenClaim.holds_of_wide 6 Try.f6 rfl rfl rfl rfl rfl rfl rfl ⟨rfl, rfl, rfl, rfl, rfl⟩ rfl rfl rfl rfl rfl (by kernel_rfl) Try.func6 (by kernel_rfl)
    (of_decide_eq_true (by kernel_rfl)) (by unfold Func.isWrapper; first | (rw [if_pos (by decide +kernel)]; kernel_rfl) | (rw [if_neg (by decide +kernel)]; exact ⟨rfl, rfl⟩))
    (fun os started H enc _ => lifted os started H enc)
/-- The statement. -/
theorem proved : Rows.FnQueryAskSaid := over
#print axioms proved
end RowQb
end Go.Proofs.Ytjdagbicjhmeeaa
