/- The law of QueryPages is walked. -/
import Derived.Test.YtpiiapoafmnhhaaGreatZl
import Derived.Test.YtpiiapoafmnhhaaGreatZk
import Derived.Test.YtpiiapoafmnhhaaGreatM16
import Derived.Test.YtpiiapoafmnhhaaGreatM04
import Derived.OpenShut
import Derived.ShutString
import Derived.ChangeOld
import Derived.Lib.SmallJoins
import Derived.Deep.Slices
import Derived.Deep.Strs
namespace Go.Proofs.YtpiiapoafmnhhaaGreat
namespace E
open Go Go.RowKit
set_option linter.unusedSimpArgs false
set_option linter.unusedVariables false
set_option maxHeartbeats 1000000
set_option maxRecDepth 10000
attribute [local irreducible] HC HL HQ HX HO At Y YV Opd Opds KnX Sl Ld Src GV RV Calls Code.wp eptr adr RdF ownF OneX HG LdC
theorem pagesQ_len (xs : List Sg) (c : Int) (q : Qu) : (pagesQ xs c q).length ≤ 1000000 := by
  by_cases h : ∃ g0, readL xs = some g0 ∧ lok c = true ∧ qok q = true
  · obtain ⟨g0, e1, hc, hq⟩ := h
    rw [pagesQ_yes e1 hc hq]
    exact pagesL_len (readL_some e1).1.view q
  · rw [pagesQ_no h]; simp
theorem same_Pg {v u : Value} {xs : List Pg} (w : World) (hr : RdF w v xs := by exact rdA) (hq : RdF w u xs := by exact rdA) : Calls Tryz.prog 19 #[v, u] w (Ret (fun _ : Unit => .bool true) (fun _ => []) w) := by
  have := c_eqPageS w hr hq
  rwa [decide_eq_true rfl] at this
theorem c_szSegS_yes {v : Value} {xs : List Sg} {k : Int} (w : World) (hsz : ∀ s ∈ xs, s.b.size ≤ 9223372036854775807) (h : (tots xs : Int) ≤ k) (hk : 0 ≤ k ∧ k ≤ 1048576) (hr : RdF w v xs) : Calls Tryz.prog 14 #[v, .int .i64 k] w (Ret (fun _ : Unit => .int .i64 (k - tots xs)) (fun _ => []) w) := by
  have := c_szSegS (k := k) w hsz hr hk
  rwa [if_neg (by omega)] at this
theorem c_szSegS_no {v : Value} {xs : List Sg} {k : Int} (w : World) (hsz : ∀ s ∈ xs, s.b.size ≤ 9223372036854775807) (h : ¬ (tots xs : Int) ≤ k) (hk : 0 ≤ k ∧ k ≤ 1048576) (hr : RdF w v xs) : Calls Tryz.prog 14 #[v, .int .i64 k] w (Ret (fun _ : Unit => .int .i64 (-1)) (fun _ => []) w) := by
  have := c_szSegS (k := k) w hsz hr hk
  rwa [if_pos (by omega)] at this
theorem c_law_QueryPages {v : Value} {xs : List Sg} {c k l n : Int} (w : World) (hsz : ∀ s ∈ xs, s.b.size ≤ 9223372036854775807) (hr : RdF w v xs) : Calls Tryz.prog 3 #[v, .int .i64 c, .agg #[.int .i64 k, .int .i64 l, .int .i64 n]] w (Ret (fun _ : Unit => .bool true) (fun _ => []) w) := by
  have o1 := hr.one
  by_cases h : (tots xs : Int) ≤ 1048576
  · have hb := tots_bounds (xs := xs) (k := 1048576) (by omega)
    obtain ⟨hl0, hs0⟩ := hb
    have hl : xs.length ≤ 2000000 := by omega
    have hs : ∀ s ∈ xs, s.b.size ≤ 4000000 := fun s h => by have := hs0 s h; omega
    have hpl := pagesQ_len xs c ⟨k, ⟨l, n⟩⟩
    have hSz : ∀ w, RdF w v xs → Calls Tryz.prog 14 #[v, .int .i64 1048576] w (Ret (fun _ : Unit => .int .i64 (1048576 - tots xs)) (fun _ => []) w) := fun w a => c_szSegS_yes w hsz h (by omega) a
    have hSp : ∀ u w, RdF w u xs → Calls Tryz.prog 15 #[u, .int .i64 c, .agg #[.int .i64 k, .int .i64 l, .int .i64 n]] w (Ret (fun z : V1 => z.1) (fun z => [ownF 63 z.1 (pagesQ xs c ⟨k, ⟨l, n⟩⟩)]) w) := fun u w a => c_s_QueryPages w hs hl a
    have hIp : ∀ u w, RdF w u xs → Calls Tryz.prog 18 #[u, .int .i64 c, .agg #[.int .i64 k, .int .i64 l, .int .i64 n]] w (Ret (fun z : V1 => z.1) (fun z => [ownF 63 z.1 (pagesQ xs c ⟨k, ⟨l, n⟩⟩)]) w) := fun u w a => c_i_QueryPages w hs hl a
    generalize pagesQ xs c ⟨k, ⟨l, n⟩⟩ = pg at *
    refine enter (args := _) Tryz.func3 rfl Tryz.ntmps3 (by simp) ?_
    repeat' (first | refine E.st ?_ | refine E.dx [0, 2, 3, 1, 4, 5, 6] ?_ | refine E.dx [0, 2, 3, 1, 4, 5, 6] ?_ | refine E.cl (h := fun _ w hw => hSz w (hr.now hw)) (k := ?_) | refine E.cl (h := fun _ w _ => c_toQuery w) (k := ?_) | refine E.cm (h := fun w hw => c_toSegS (xs := xs) w (hr.now hw)) (k := fun z => E.wy z.2 (fun _ => ?_)) | refine E.cm (h := fun w hw => hSp _ w (RdF.ofK hw)) (k := fun z => E.wy z.2 (fun _ => ?_)) | refine E.cm (h := fun w hw => hIp _ w (RdF.ofK hw)) (k := fun z => E.wy z.2 (fun _ => ?_)) | refine E.cl (h := fun _ w hw => same_Pg (xs := pg) w) (k := ?_) | refine E.cl (h := fun _ w hw => c_eqSegS_same (xs := xs) w) (k := ?_) | refine E.ckq (h := fun w hw => c_markSegS (xs := xs) (k := 1) w hw) (k := fun _ => ?_) | refine E.ckp (h := fun K'' w hw => c_markPageS (xs := pg) (k := 1) w hw) (k := fun _ => ?_) | refine E.cl (h := fun _ w hw => c_heldPageS (n := pg.length) (k := 1) w) (k := ?_) | refine E.q3 ?_ | refine E.q ?_ | refine E.qs ?_ | refine E.q2 ?_ | refine E.q4 ?_ | refine E.tr ?_ | refine E.ap (fun _ _ => ?_) | refine E.b1 (fun _ _ => ?_) | refine E.b0 (fun _ _ => ?_) | refine E.bsn (fun _ _ => ?_) | refine E.mk (fun _ _ => ?_) | refine E.bxO (fun _ => ?_) | refine E.al (fun _ => ?_) | refine E.sbO ?_ | refine E.dq ?_ | refine E.ct ?_ | refine E.cf ?_ | refine E.cs (fun hh => ?_) (fun hh => ?_) | refine E.at_block_other rfl ?_)
    all_goals first
      | exact rb
      | (exfalso; simp only [Bool.not_true, Bool.or_false, decide_eq_true_eq, not_true_eq_false, Bool.false_eq_true, or_false] at *; omega)
      | trace_state
  · have hSz : ∀ w, RdF w v xs → Calls Tryz.prog 14 #[v, .int .i64 1048576] w (Ret (fun _ : Unit => .int .i64 (-1)) (fun _ => []) w) := fun w a => c_szSegS_no w hsz h (by omega) a
    refine enter (args := _) Tryz.func3 rfl Tryz.ntmps3 (by simp) ?_
    repeat' (first | refine E.st ?_ | refine E.cl (h := fun _ w hw => hSz w (hr.now hw)) (k := ?_) | refine E.q3 ?_ | refine E.q ?_ | refine E.qs ?_ | refine E.q2 ?_ | refine E.q4 ?_ | refine E.tr ?_ | refine E.ap (fun _ _ => ?_) | refine E.b1 (fun _ _ => ?_) | refine E.b0 (fun _ _ => ?_) | refine E.bsn (fun _ _ => ?_) | refine E.mk (fun _ _ => ?_) | refine E.bxO (fun _ => ?_) | refine E.al (fun _ => ?_) | refine E.sbO ?_ | refine E.dq ?_ | refine E.ct ?_ | refine E.cf ?_ | refine E.cs (fun hh => ?_) (fun hh => ?_) | refine E.at_block_other rfl ?_)
    exact rb
end E
end Go.Proofs.YtpiiapoafmnhhaaGreat
/- What is handed in, read as data: slices of flat data, slices whose elements hold slices, structs (second edition). -/
namespace Go.Proofs.YtpiiapoafmnhhaaGreat
namespace E
open Go Go.RowKit Go.ChangeShapes Go.WideShapes Go.ChangeAt Go.Joins Go.Deep
set_option linter.unusedVariables false
section
variable {H : Type} {enc : TypeId × Value → H} {P : Program} {W : World} {base : Nat} {spare : Nat → Bool} {held : Bool}

/-- Whatever reads at the type e is the cells of a datum. -/
def Dec (enc : TypeId × Value → H) (P : Program) (W : World) (base : Nat) (spare : Nat → Bool) (held : Bool) (e : TypeId) (α : Type) [Flat α] : Prop :=
  ∀ n cs y, DataW.trod enc P W base spare held n e cs = some y → ∃ x : α, cs = Flat.f x

theorem list_of {α : Type} (p : Nat → α → Prop) : ∀ l : Nat, (∀ i, i < l → ∃ x, p i x) → ∃ xs : List α, xs.length = l ∧ ∀ i x, xs[i]? = some x → p i x
  | 0, _ => ⟨[], rfl, fun i x h => by simp at h⟩
  | l + 1, h => by
    obtain ⟨xs, h1, h2⟩ := list_of p l (fun i hi => h i (by omega))
    obtain ⟨x, hx⟩ := h l (by omega)
    refine ⟨xs ++ [x], by simp [h1], fun i y hy => ?_⟩
    rcases Nat.lt_or_ge i xs.length with hi | hi
    · rw [List.getElem?_append_left hi] at hy
      exact h2 i y hy
    · rw [List.getElem?_append_right hi] at hy
      have h0 : i - xs.length = 0 := by
        rcases Nat.eq_zero_or_pos (i - xs.length) with h0 | h0
        · exact h0
        · rw [List.getElem?_eq_none (by simp; omega)] at hy; cases hy
      rw [h0] at hy
      simp only [List.getElem?_cons_zero, Option.some.injEq] at hy
      subst hy
      have : i = l := by omega
      subst this
      exact hx
theorem cells_at {α : Type} [Flat α] : ∀ (xs : List α) (j : Nat) (u : Value), (cells xs)[j]? = some u → ∃ i x q, xs[i]? = some x ∧ (Flat.f x)[q]? = some u ∧ q < Flat.k α ∧ j = i * Flat.k α + q
  | [], j, u, h => by simp [cells] at h
  | x :: xs, j, u, h => by
    simp only [cells, List.flatMap_cons] at h
    rcases Nat.lt_or_ge j (Flat.f x).length with hj | hj
    · rw [List.getElem?_append_left hj] at h
      exact ⟨0, x, j, rfl, h, by rw [Flat.len] at hj; exact hj, by simp⟩
    · rw [List.getElem?_append_right hj] at h
      obtain ⟨i, y, q, h1, h2, h3, h4⟩ := cells_at xs _ u h
      rw [Flat.len] at hj h4
      exact ⟨i + 1, y, q, by simpa using h1, h2, h3, by rw [Nat.add_mul]; omega⟩

end
section
variable {H : Type} {enc : TypeId × Value → H} {P : Program} {W : World} {base : Nat} {spare : Nat → Bool} {held : Bool}
/-- Whatever reads at the type e is the cells of a datum of which Φ is true. -/
def DecP (enc : TypeId × Value → H) (P : Program) (W : World) (base : Nat) (spare : Nat → Bool) (held : Bool) (e : TypeId) (α : Type) [Flat α] (Φ : α → Prop) : Prop :=
  ∀ n cs y, DataW.trod enc P W base spare held n e cs = some y → ∃ x : α, cs = Flat.f x ∧ Φ x
theorem Dec.p {e : TypeId} {α : Type} [Flat α] (h : Dec enc P W base spare held e α) : DecP enc P W base spare held e α (fun _ => True) := fun n cs y hy => by
  obtain ⟨x, hx⟩ := h n cs y hy
  exact ⟨x, hx, trivial⟩
/-- The cells of a slice. -/
theorem open_cellsP {α : Type} [Flat α] {Φ : α → Prop} {t e : TypeId} {n : Nat} {cs : List Value} {y : DataW H × List MemPlace} (ht : P.underlying t = some (.slice e)) (hk : P.cellsOf e = Flat.k α) (hpos : 0 < Flat.k α) (hd : DecP enc P W base spare held e α Φ)
    (hf : DataW.trod enc P W base spare held n t cs = some y) : ∃ (s : Sv) (xs : List α), cs = [.slice s.a s.n s.c] ∧ RdF W (.slice s.a s.n s.c) xs ∧ ∀ x ∈ xs, Φ x := by
  rcases open_slice ht hf with ⟨hcs, _⟩ | ⟨a, l, c, m, n, D, Pl, hcs, hb, hl, hm, hmm, _, hx⟩
  · exact ⟨⟨none, 0, 0⟩, [], hcs, RdF.nil W, fun x h => by cases h⟩
  · have hlm : l ≤ m := by rw [hmm]; split <;> omega
    obtain ⟨xs, h1, h2⟩ := list_of (fun i (x : α) => W.cells? base (a.add (i * Flat.k α)) (Flat.k α) = some (Flat.f x) ∧ Φ x) l (fun i hi => by
      obtain ⟨cs', h1, h2⟩ := hx i (by omega)
      obtain ⟨x, rfl, hΦ⟩ := hd _ _ _ h2
      exact ⟨x, by rw [← hk]; exact h1, hΦ⟩)
    subst h1
    have hcell : ∀ j u, (cells xs)[j]? = some u → W.cell? (a.add j) = some u := fun j u hj => by
      obtain ⟨i, x, q, g1, g2, g3, rfl⟩ := cells_at xs j u hj
      obtain ⟨_, _, g4⟩ := World.cells?_some (h2 i x g1).1
      rw [← Addr.add_add, g4 q g3, g2]
    refine ⟨⟨some a, xs.length, c⟩, xs, hcs, ⟨⟨some a, c, rfl, hl, hm, fun _ => ⟨a, rfl⟩⟩, cells_length xs, fun hpos' => ?_, hcell⟩, fun x hx => ?_⟩
    · have hlt : 0 < (cells xs).length := by rw [cells_length]; exact Nat.mul_pos hpos' hpos
      have := hcell 0 _ (List.getElem?_eq_getElem hlt)
      have hb := World.block_lt_of_cell? W _ this
      have hab : (a.add 0).block = a.block := by unfold Addr.add; split <;> rfl
      rw [hab] at hb
      exact hb
    · obtain ⟨i, hi⟩ := List.getElem?_of_mem hx
      exact (h2 i x hi).2
theorem open_rdP {α : Type} [Flat α] {Φ : α → Prop} {t e : TypeId} {v : Value} {d : DataW H} {p : List MemPlace} {r : Reach} {b0 : Nat} (ht : P.underlying t = some (.slice e)) (hk : P.cellsOf e = Flat.k α) (hpos : 0 < Flat.k α) (hd : DecP enc P W base spare held e α Φ)
    (hv : Value.okWide P W r b0 t v) (h : DataW.Trod enc P W base spare held t v d p) : ∃ xs : List α, RdF W v xs ∧ ∀ x ∈ xs, Φ x := by
  obtain ⟨A, l, c, rfl⟩ := okWide_slice ht hv
  obtain ⟨fuel, hf⟩ := h
  obtain ⟨s, xs, h1, h2, h3⟩ := open_cellsP ht hk hpos hd hf
  have : A = s.a ∧ l = s.n ∧ c = s.c := by simpa [Value.cells] using h1
  obtain ⟨rfl, rfl, rfl⟩ := this
  exact ⟨xs, h2, h3⟩
end
section
variable {H : Type} {enc : TypeId × Value → H} {P : Program} {W : World} {base : Nat} {spare : Nat → Bool} {held : Bool}
/-- A struct that is handed in: its cells. -/
theorem open_aggL {fs : Array Field} {t : TypeId} {v : Value} {d : DataW H} {p : List MemPlace} {r : Reach} {b0 : Nat} (ht : P.underlying t = some (.struct fs)) (hv : Value.okWide P W r b0 t v) (h : DataW.Trod enc P W base spare held t v d p) : ∃ (cs : List Value) (n : Nat) (y : DataW H × List MemPlace), v = .agg cs.toArray ∧ DataW.trod enc P W base spare held n t cs = some y := by
  obtain ⟨cs, rfl, _⟩ := okWide_struct ht hv
  obtain ⟨fuel, hf⟩ := h
  exact ⟨cs.toList, fuel, _, by simp, hf⟩
end
end E
end Go.Proofs.YtpiiapoafmnhhaaGreat
