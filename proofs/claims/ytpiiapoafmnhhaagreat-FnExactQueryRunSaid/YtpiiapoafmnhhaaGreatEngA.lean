/- The engine, sixth part: typed rows, and the rules with what they ask found by themselves (default proofs). -/
import Derived.Test.YtpiiapoafmnhhaaGreatEngX
namespace Go.Proofs.YtpiiapoafmnhhaaGreat
namespace E
set_option linter.unusedSimpArgs false
set_option linter.unusedVariables false
open Go Go.RowKit

/-- Data of k cells. -/
class Flat (α : Type) where
  k : Nat
  f : α → List Value
  len : ∀ x, (f x).length = k
  one : ∀ x, ∀ u ∈ f x, u.oneCell' = true

def cells {α : Type} [Flat α] (xs : List α) : List Value := xs.flatMap Flat.f
theorem cells_length {α : Type} [Flat α] (xs : List α) : (cells xs).length = xs.length * Flat.k α := by
  unfold cells
  induction xs with
  | nil => simp
  | cons x xs ih => simp only [List.flatMap_cons, List.length_append, Flat.len, ih, List.length_cons, Nat.add_mul]; omega
theorem cells_append {α : Type} [Flat α] (xs ys : List α) : cells (xs ++ ys) = cells xs ++ cells ys := by simp [cells]
theorem cells_one {α : Type} [Flat α] (xs : List α) : ∀ u ∈ cells xs, u.oneCell' = true := fun u hu => by
  unfold cells at hu
  obtain ⟨x, _, hx⟩ := List.mem_flatMap.1 hu
  exact Flat.one x u hx
theorem cells_get {α : Type} [Flat α] : ∀ (xs : List α) (k i : Nat) (x : α) (u : Value), xs[k]? = some x → (Flat.f x)[i]? = some u → (cells xs)[k * Flat.k α + i]? = some u
  | [], k, i, x, u, h, _ => by simp at h
  | y :: ys, 0, i, x, u, h, hi => by
    simp only [List.getElem?_cons_zero, Option.some.injEq] at h
    subst h
    have hlt : i < (Flat.f y).length := (List.getElem?_eq_some_iff.1 hi).1
    simp only [cells, List.flatMap_cons, Nat.zero_mul, Nat.zero_add]
    rw [List.getElem?_append_left hlt]
    exact hi
  | y :: ys, k + 1, i, x, u, h, hi => by
    have ih := cells_get ys k i x u (by simpa using h) hi
    simp only [cells, List.flatMap_cons]
    rw [List.getElem?_append_right (by rw [Flat.len, Nat.add_mul]; omega)]
    rw [Flat.len, show (k + 1) * Flat.k α + i - Flat.k α = k * Flat.k α + i from by rw [Nat.add_mul]; omega]
    exact ih
theorem setAt_append_right : ∀ (vs as bs : List Value) (i : Nat), setAt (as ++ bs) (as.length + i) vs = as ++ setAt bs i vs
  | [], _, _, _ => rfl
  | v :: vs, as, bs, i => by
    simp only [setAt]
    rw [List.set_append_right _ _ (by omega), show as.length + i - as.length = i from by omega, Nat.add_assoc]
    exact setAt_append_right vs as _ _
theorem setAt_append_left : ∀ (vs as bs : List Value) (i : Nat), i + vs.length ≤ as.length → setAt (as ++ bs) i vs = setAt as i vs ++ bs
  | [], _, _, _, _ => rfl
  | v :: vs, as, bs, i, h => by
    simp only [List.length_cons] at h
    simp only [setAt]
    rw [List.set_append_left _ _ (by omega)]
    exact setAt_append_left vs _ _ _ (by simp; omega)
theorem cells_set {α : Type} [Flat α] : ∀ (xs : List α) (k j : Nat) (x x' : α) (vs : List Value), xs[k]? = some x → SetN (Flat.f x) j vs (Flat.f x') → setAt (cells xs) (k * Flat.k α + j) vs = cells (xs.set k x')
  | [], k, j, x, x', vs, h, _ => by simp at h
  | y :: ys, 0, j, x, x', vs, h, hs => by
    simp only [List.getElem?_cons_zero, Option.some.injEq] at h
    subst h
    simp only [cells, List.flatMap_cons, Nat.zero_mul, Nat.zero_add, List.set_cons_zero]
    rw [setAt_append_left _ _ _ _ hs.fits, hs.eq]
  | y :: ys, k + 1, j, x, x', vs, h, hs => by
    have ih := cells_set ys k j x x' vs (by simpa using h) hs
    simp only [cells, List.flatMap_cons, List.set_cons_succ] at ih ⊢
    rw [show (k + 1) * Flat.k α + j = (Flat.f y).length + (k * Flat.k α + j) from by rw [Flat.len, Nat.add_mul]; omega, setAt_append_right, ih]

/-- The slice v reads as the list xs, below the blocks of the call. -/
def RdF {α : Type} [Flat α] (w : World) (v : Value) (xs : List α) : Prop := Rd w w.heap.size (Flat.k α) v xs.length (cells xs)
/-- A row of the call's own that holds the list xs. -/
def ownF {α : Type} [Flat α] (e : TypeId) (v : Value) (xs : List α) : Ck := .own v e (Flat.k α) xs.length (cells xs)
theorem RdF.now {α : Type} [Flat α] {w0 w : World} {K : List Ck} {v : Value} {xs : List α} (h : RdF w0 v xs) (hK : KOk w0 K w) : RdF w v xs := Rd.now h hK
theorem RdF.of_own {α : Type} [Flat α] {w0 w : World} {K : List Ck} {v : Value} {xs : List α} {e : TypeId} (hm : ownF e v xs ∈ K) (hK : KOk w0 K w) : RdF w v xs := Rd.of_own (hK.holds _ hm)
theorem RdF.nil {α : Type} [Flat α] (w : World) : RdF (α := α) w (.slice none 0 0) [] := Rd.nil _ _ _
theorem RdF.one {α : Type} [Flat α] {w : World} {v : Value} {xs : List α} (h : RdF w v xs) : v.oneCell' = true := by
  obtain ⟨A, c, rfl, _⟩ := h.sl; rfl
theorem RdF.le {α : Type} [Flat α] {w : World} {v : Value} {xs : List α} (h : RdF w v xs) : xs.length ≤ maxLen := by
  obtain ⟨A, c, rfl, h1, h2, _⟩ := h.sl; omega

section
variable {P : Program} {N : Nat} {w0 : World} {K K' Kp : List Ck} {F : List (Nat × En)} {c : Bool} {Q : Exit → Act → World → Prop} {ops : Array Oper} {rest : List Oper} {d : Nat} {dd : Option Tmp} {ty : TypeId} {pos : String} {af : Array Edge} {gd : Option (Nat × Bool)}

theorem Sl.rdF {α : Type} [Flat α] {v : Value} {xs : List α} (h : RdF w0 v xs) : Sl w0 K v xs.length := fun _ _ => h.sl
theorem Sl.ownF {α : Type} [Flat α] {v : Value} {xs : List α} {e : TypeId} (h : E.ownF e v xs ∈ K) : Sl w0 K v xs.length := Sl.own h
theorem Ld.rdF {α : Type} [Flat α] {v : Value} {xs : List α} {k j : Nat} {x : α} {u : Value} (h : RdF w0 v xs) (hx : c = true → xs[k]? = some x) (hj : (Flat.f x)[j]? = some u) : Ld w0 K c (eptr v (Flat.k α) k j) [u] :=
  Ld.rd h (fun hc => (List.getElem?_eq_some_iff.1 (hx hc)).1) (fun hc i u' hu => by
    cases i with
    | zero => simp only [List.getElem?_cons_zero, Option.some.injEq] at hu; subst hu; exact cells_get xs k j x u (hx hc) hj
    | succ i => simp at hu)
theorem Ld.ownF {α : Type} [Flat α] {v : Value} {xs : List α} {e : TypeId} {k j : Nat} {x : α} {u : Value} (h : E.ownF e v xs ∈ K) (hx : c = true → xs[k]? = some x) (hj : (Flat.f x)[j]? = some u) : Ld w0 K c (eptr v (Flat.k α) k j) [u] :=
  Ld.own h (fun hc => (List.getElem?_eq_some_iff.1 (hx hc)).1) (fun hc i u' hu => by
    cases i with
    | zero => simp only [List.getElem?_cons_zero, Option.some.injEq] at hu; subst hu; exact cells_get xs k j x u (hx hc) hj
    | succ i => simp at hu)
theorem Ld.rdS {α : Type} [Flat α] {v : Value} {xs : List α} {sz k j : Nat} {x : α} {u : Value} (h : RdF w0 v xs) (hx : c = true → xs[k]? = some x) (hsz : Flat.k α = sz) (hj : (Flat.f x)[j]? = some u) : Ld w0 K c (eptr v sz k j) [u] := by subst hsz; exact Ld.rdF h hx hj
theorem Ld.ownS {α : Type} [Flat α] {v : Value} {xs : List α} {e : TypeId} {sz k j : Nat} {x : α} {u : Value} (h : E.ownF e v xs ∈ K) (hx : c = true → xs[k]? = some x) (hsz : Flat.k α = sz) (hj : (Flat.f x)[j]? = some u) : Ld w0 K c (eptr v sz k j) [u] := by subst hsz; exact Ld.ownF h hx hj
inductive SubN : List Value → Nat → List Value → Prop where
  | nil (cs : List Value) : SubN cs 0 []
  | here (c : Value) (cs vs : List Value) (h : SubN cs 0 vs) : SubN (c :: cs) 0 (c :: vs)
  | there (c : Value) (cs vs : List Value) (i : Nat) (h : SubN cs i vs) : SubN (c :: cs) (i + 1) vs
theorem SubN.get {cs vs : List Value} {i : Nat} (h : SubN cs i vs) : ∀ j u, vs[j]? = some u → cs[i + j]? = some u := by
  induction h with
  | nil cs => intro j u h; simp at h
  | here c cs vs _ ih =>
    intro j u hu
    cases j with
    | zero => simpa using hu
    | succ j => have := ih j u (by simpa using hu); simpa [Nat.add_comm] using this
  | there c cs vs i _ ih =>
    intro j u hu
    have := ih j u hu
    rw [show i + 1 + j = i + j + 1 from by omega]
    simpa using this
theorem SubN.all : ∀ (cs : List Value), SubN cs 0 cs
  | [] => .nil _
  | c :: cs => .here c cs cs (SubN.all cs)
theorem Ld.rdFN {α : Type} [Flat α] {v : Value} {xs : List α} {k j : Nat} {x : α} {us : List Value} (h : RdF w0 v xs) (hx : c = true → xs[k]? = some x) (hj : SubN (Flat.f x) j us) : Ld w0 K c (eptr v (Flat.k α) k j) us := fun hc =>
  Ld.rd h (fun hc => (List.getElem?_eq_some_iff.1 (hx hc)).1) (fun hc i u' hu => by rw [Nat.add_assoc]; exact cells_get xs k (j + i) x u' (hx hc) (hj.get i u' hu)) hc
theorem Ld.ownFN {α : Type} [Flat α] {v : Value} {xs : List α} {e : TypeId} {k j : Nat} {x : α} {us : List Value} (h : E.ownF e v xs ∈ K) (hx : c = true → xs[k]? = some x) (hj : SubN (Flat.f x) j us) : Ld w0 K c (eptr v (Flat.k α) k j) us := fun hc =>
  Ld.own h (fun hc => (List.getElem?_eq_some_iff.1 (hx hc)).1) (fun hc i u' hu => by rw [Nat.add_assoc]; exact cells_get xs k (j + i) x u' (hx hc) (hj.get i u' hu)) hc
theorem Ld.box1 {g i : Nat} {t : TypeId} {cs : List Value} {v : Value} (hm : .box g t cs ∈ K) (hv : cs[i]? = some v) : Ld w0 K c (.pointer (some ⟨g, i, none⟩)) [v] := Ld.box hm (fun j u hu => by
  cases j with
  | zero => simp only [List.getElem?_cons_zero, Option.some.injEq] at hu; subst hu; simpa using hv
  | succ j => simp at hu)
theorem Ld.boxN {g i : Nat} {t : TypeId} {cs vs : List Value} (hm : .box g t cs ∈ K) (hv : SubN cs i vs) : Ld w0 K c (.pointer (some ⟨g, i, none⟩)) vs := Ld.box hm hv.get

/-! ### With default proofs -/
variable {x y : Operand} {t t' : TypeId} {u v : Value} {i j : Int} {k : IntKind}

theorem a_move (h : Opd N F c x v := by first | exact Opd.pl rfl | exact Opd.gd rfl (fun h => h) | exact Opd.gd rfl (by simp; done) | exact Opd.gd rfl (by simp +contextual; done)) : YV P N w0 K F c ⟨dd, .move x, ty, pos, af, gd⟩ v := y_move h
theorem a_assign (h : Opd N F c x v := by first | exact Opd.pl rfl | exact Opd.gd rfl (fun h => h) | exact Opd.gd rfl (by simp; done) | exact Opd.gd rfl (by simp +contextual; done)) : YV P N w0 K F c ⟨dd, .assign x, ty, pos, af, gd⟩ v := y_assign h
theorem a_not {b : Bool} (h : Opd N F c x (.bool b) := by first | exact Opd.pl rfl | exact Opd.gd rfl (fun h => h) | exact Opd.gd rfl (by simp; done) | exact Opd.gd rfl (by simp +contextual; done)) : YV P N w0 K F c ⟨dd, .unOp .not t x, ty, pos, af, gd⟩ (.bool (!b)) := y_not h
theorem a_pick_and {q : Operand} {b u : Bool} (hq : Opd N F c q (.bool b) := by first | exact Opd.pl rfl | exact Opd.gd rfl (fun h => h) | exact Opd.gd rfl (by simp; done) | exact Opd.gd rfl (by simp +contextual; done)) (hx : Opd N F (c && b) x (.bool u) := by first | exact Opd.pl rfl | exact Opd.gd rfl (fun h => h) | exact Opd.gd rfl (by simp; done) | exact Opd.gd rfl (by simp +contextual; done)) : YV P N w0 K F c ⟨dd, .pick q x (.const (.bool false)), ty, pos, af, gd⟩ (.bool (b && u)) := y_pick_and hq hx
theorem a_pick_or {q : Operand} {b u : Bool} (hq : Opd N F c q (.bool b) := by first | exact Opd.pl rfl | exact Opd.gd rfl (fun h => h) | exact Opd.gd rfl (by simp; done) | exact Opd.gd rfl (by simp +contextual; done)) (hx : Opd N F (c && !b) y (.bool u) := by first | exact Opd.pl rfl | exact Opd.gd rfl (fun h => h) | exact Opd.gd rfl (by simp; done) | exact Opd.gd rfl (by simp +contextual; done)) : YV P N w0 K F c ⟨dd, .pick q (.const (.bool true)) y, ty, pos, af, gd⟩ (.bool (b || u)) := y_pick_or hq hx
theorem a_extract {n : Nat} {vs : Array Value} (h : Opd N F c x (.tuple vs) := by first | exact Opd.pl rfl | exact Opd.gd rfl (fun h => h)) (hi : vs[n]? = some v := by rfl) : YV P N w0 K F c ⟨dd, .extract x n, ty, pos, af, gd⟩ v := y_extract h hi
theorem a_nilck {p : Addr} (h : Opd N F c x (.pointer (some p)) := by first | exact Opd.pl rfl | exact Opd.gd rfl (fun h => h)) : YV P N w0 K F c ⟨dd, .nilCheck x, ty, pos, af, gd⟩ (.pointer (some p)) := y_nilck h
theorem a_fld_box {f off g : Nat} [T : TFld P t f off] (h : Opd N F c x (.pointer (some ⟨g, 0, none⟩)) := by first | exact Opd.pl rfl | exact Opd.gd rfl (fun h => h)) : YV P N w0 K F c ⟨dd, .fieldAddr t x f, ty, pos, af, gd⟩ (.pointer (some ⟨g, off, none⟩)) := y_fld_box h
theorem a_fld_box' {f off g n : Nat} [T : TFld P t f off] (h : Opd N F c x (.pointer (some ⟨g, n, none⟩)) := by first | exact Opd.pl rfl | exact Opd.gd rfl (fun h => h)) : YV P N w0 K F c ⟨dd, .fieldAddr t x f, ty, pos, af, gd⟩ (.pointer (some ⟨g, n + off, none⟩)) := y_fld_box' h
theorem a_fld_el {f off sz n : Nat} [T : TFld P t f off] (h : Opd N F c x (eptr v sz n 0) := by first | exact Opd.pl rfl | exact Opd.gd rfl (fun h => h)) : YV P N w0 K F c ⟨dd, .fieldAddr t x f, ty, pos, af, gd⟩ (eptr v sz n off) := y_fld_el h
theorem a_fld_el' {f off sz n m : Nat} [T : TFld P t f off] (h : Opd N F c x (eptr v sz n m) := by first | exact Opd.pl rfl | exact Opd.gd rfl (fun h => h)) : YV P N w0 K F c ⟨dd, .fieldAddr t x f, ty, pos, af, gd⟩ (eptr v sz n (m + off)) := y_fld_el' h
theorem a_len {n : Nat} {e : TypeId} [T : TSlc P t e] (h : Opd N F c x v := by first | exact Opd.pl rfl | exact Opd.gd rfl (fun h => h)) (hv : Sl w0 K v n := by first | exact Sl.rdF (by assumption) | exact Sl.ownF (by repeat (first | exact List.Mem.head _ | apply List.Mem.tail)) | exact Sl.is (by assumption)) :
    YV P N w0 K F c ⟨dd, .call { callee := .builtin .len, args := #[x], argTypes := #[t] }, ty, pos, af, gd⟩ (.int .i64 (n : Int)) := y_len h hv
theorem a_len_str {s : ByteArray} [T : TStr P t] (h : Opd N F c x (.string s) := by first | exact Opd.pl rfl | exact Opd.gd rfl (fun h => h)) :
    YV P N w0 K F c ⟨dd, .call { callee := .builtin .len, args := #[x], argTypes := #[t] }, ty, pos, af, gd⟩ (.int .i64 (s.size : Int)) := y_len_str h
theorem a_idx {ix : Operand} {e : TypeId} {n sz m : Nat} {kd : IntKind} [T : TSlc P t e] [S : TSize P e sz] (h : Opd N F c x v := by first | exact Opd.pl rfl | exact Opd.gd rfl (fun h => h)) (hv : Sl w0 K v n := by first | exact Sl.rdF (by assumption) | exact Sl.ownF (by repeat (first | exact List.Mem.head _ | apply List.Mem.tail)) | exact Sl.is (by assumption)) (hi : Opd N F c ix (.int kd i) := by first | exact Opd.pl rfl | exact Opd.gd rfl (fun h => h))
    (hk : c = true → i = (m : Int) ∧ m < n := by first | exact (fun _ => ⟨rfl, by omega⟩) | (intro hcc; simp only [Bool.and_eq_true, Bool.or_eq_true, Bool.not_eq_true', decide_eq_true_eq, decide_eq_false_iff_not] at hcc; exact ⟨rfl, by omega⟩) | (intro hcc; (try simp only [Bool.and_eq_true, Bool.or_eq_true, Bool.not_eq_true', decide_eq_true_eq, decide_eq_false_iff_not] at hcc); exact ⟨(Int.toNat_of_nonneg (by omega)).symm, by omega⟩)) :
    YV P N w0 K F c ⟨dd, .indexAddr t x ix, ty, pos, af, gd⟩ (eptr v sz m 0) := y_idx h hv hi hk
theorem a_load {p : Value} [T : TOne P t] (h : Opd N F c x p := by first | exact Opd.pl rfl | exact Opd.gd rfl (fun h => h)) (hl : Ld w0 K c p [v] := by first | exact Ld.box1 (by repeat (first | exact List.Mem.head _ | apply List.Mem.tail)) rfl | exact Ld.rdS (by assumption) (by first | assumption | exact (fun _ => by assumption)) (by rfl) (by rfl) | exact Ld.ownS (by repeat (first | exact List.Mem.head _ | apply List.Mem.tail)) (by first | assumption | exact (fun _ => by assumption)) (by rfl) (by rfl)) : YV P N w0 K F c ⟨dd, .load t x, ty, pos, af, gd⟩ v := y_load h hl
theorem a_load_agg {p : Value} {vs : List Value} {n : Nat} [T : TAgg P t n] (h : Opd N F c x p := by first | exact Opd.pl rfl | exact Opd.gd rfl (fun h => h)) (hn : vs.length = n) (hl : Ld w0 K c p vs) : YV P N w0 K F c ⟨dd, .load t x, ty, pos, af, gd⟩ (.agg vs.toArray) := y_load_agg h hl hn
theorem a_add (hx : Opd N F c x (.int .i64 i) := by first | exact Opd.pl rfl | exact Opd.gd rfl (fun h => h)) (hy : Opd N F c y (.int .i64 j) := by first | exact Opd.pl rfl | exact Opd.gd rfl (fun h => h)) (h : c = true → -9223372036854775808 ≤ i + j ∧ i + j ≤ 9223372036854775807 := by first | exact (fun _ => by omega) | (intro hcc; simp only [Bool.and_eq_true, Bool.or_eq_true, Bool.not_eq_true', decide_eq_true_eq, decide_eq_false_iff_not] at hcc; omega)) : YV P N w0 K F c ⟨dd, .binOp .add t x y t', ty, pos, af, gd⟩ (.int .i64 (i + j)) := y_add_in hx hy h
theorem a_sub (hx : Opd N F c x (.int .i64 i) := by first | exact Opd.pl rfl | exact Opd.gd rfl (fun h => h)) (hy : Opd N F c y (.int .i64 j) := by first | exact Opd.pl rfl | exact Opd.gd rfl (fun h => h)) (h : c = true → -9223372036854775808 ≤ i - j ∧ i - j ≤ 9223372036854775807 := by first | exact (fun _ => by omega) | (intro hcc; simp only [Bool.and_eq_true, Bool.or_eq_true, Bool.not_eq_true', decide_eq_true_eq, decide_eq_false_iff_not] at hcc; omega)) : YV P N w0 K F c ⟨dd, .binOp .sub t x y t', ty, pos, af, gd⟩ (.int .i64 (i - j)) := y_sub_in hx hy h
theorem a_mul (hx : Opd N F c x (.int .i64 i) := by first | exact Opd.pl rfl | exact Opd.gd rfl (fun h => h)) (hy : Opd N F c y (.int .i64 j) := by first | exact Opd.pl rfl | exact Opd.gd rfl (fun h => h)) (h : c = true → -9223372036854775808 ≤ i * j ∧ i * j ≤ 9223372036854775807 := by first | exact (fun _ => by omega) | (intro hcc; simp only [Bool.and_eq_true, Bool.or_eq_true, Bool.not_eq_true', decide_eq_true_eq, decide_eq_false_iff_not] at hcc; omega)) : YV P N w0 K F c ⟨dd, .binOp .mul t x y t', ty, pos, af, gd⟩ (.int .i64 (i * j)) := y_mul_in hx hy h
theorem a_addw (hx : Opd N F c x (.int k i) := by first | exact Opd.pl rfl | exact Opd.gd rfl (fun h => h)) (hy : Opd N F c y (.int k j) := by first | exact Opd.pl rfl | exact Opd.gd rfl (fun h => h)) : YV P N w0 K F c ⟨dd, .binOp .add t x y t', ty, pos, af, gd⟩ (.int k (k.wrap (i + j))) := y_add hx hy
theorem a_subw (hx : Opd N F c x (.int k i) := by first | exact Opd.pl rfl | exact Opd.gd rfl (fun h => h)) (hy : Opd N F c y (.int k j) := by first | exact Opd.pl rfl | exact Opd.gd rfl (fun h => h)) : YV P N w0 K F c ⟨dd, .binOp .sub t x y t', ty, pos, af, gd⟩ (.int k (k.wrap (i - j))) := y_sub hx hy
theorem a_mulw (hx : Opd N F c x (.int k i) := by first | exact Opd.pl rfl | exact Opd.gd rfl (fun h => h)) (hy : Opd N F c y (.int k j) := by first | exact Opd.pl rfl | exact Opd.gd rfl (fun h => h)) : YV P N w0 K F c ⟨dd, .binOp .mul t x y t', ty, pos, af, gd⟩ (.int k (k.wrap (i * j))) := y_mul hx hy
theorem a_quo (hx : Opd N F c x (.int k i) := by first | exact Opd.pl rfl | exact Opd.gd rfl (fun h => h)) (hy : Opd N F c y (.int k j) := by first | exact Opd.pl rfl | exact Opd.gd rfl (fun h => h)) (hj : j ≠ 0 := by first | assumption | omega) : YV P N w0 K F c ⟨dd, .binOp .quo t x y t', ty, pos, af, gd⟩ (.int k (k.wrap (i.tdiv j))) := y_quo hx hy hj
theorem a_rem (hx : Opd N F c x (.int k i) := by first | exact Opd.pl rfl | exact Opd.gd rfl (fun h => h)) (hy : Opd N F c y (.int k j) := by first | exact Opd.pl rfl | exact Opd.gd rfl (fun h => h)) (hj : j ≠ 0 := by first | assumption | omega) : YV P N w0 K F c ⟨dd, .binOp .rem t x y t', ty, pos, af, gd⟩ (.int k (i.tmod j)) := y_rem hx hy hj
theorem a_eql (hx : Opd N F c x (.int k i) := by first | exact Opd.pl rfl | exact Opd.gd rfl (fun h => h)) (hy : Opd N F c y (.int k j) := by first | exact Opd.pl rfl | exact Opd.gd rfl (fun h => h)) : YV P N w0 K F c ⟨dd, .binOp .eql t x y t', ty, pos, af, gd⟩ (.bool (decide (i = j))) := y_eql hx hy
theorem a_neq (hx : Opd N F c x (.int k i) := by first | exact Opd.pl rfl | exact Opd.gd rfl (fun h => h)) (hy : Opd N F c y (.int k j) := by first | exact Opd.pl rfl | exact Opd.gd rfl (fun h => h)) : YV P N w0 K F c ⟨dd, .binOp .neq t x y t', ty, pos, af, gd⟩ (.bool (!decide (i = j))) := y_neq hx hy
theorem a_lss (hx : Opd N F c x (.int k i) := by first | exact Opd.pl rfl | exact Opd.gd rfl (fun h => h)) (hy : Opd N F c y (.int k j) := by first | exact Opd.pl rfl | exact Opd.gd rfl (fun h => h)) : YV P N w0 K F c ⟨dd, .binOp .lss t x y t', ty, pos, af, gd⟩ (.bool (decide (i < j))) := y_lss hx hy
theorem a_leq (hx : Opd N F c x (.int k i) := by first | exact Opd.pl rfl | exact Opd.gd rfl (fun h => h)) (hy : Opd N F c y (.int k j) := by first | exact Opd.pl rfl | exact Opd.gd rfl (fun h => h)) : YV P N w0 K F c ⟨dd, .binOp .leq t x y t', ty, pos, af, gd⟩ (.bool (decide (i ≤ j))) := y_leq hx hy
theorem a_gtr (hx : Opd N F c x (.int k i) := by first | exact Opd.pl rfl | exact Opd.gd rfl (fun h => h)) (hy : Opd N F c y (.int k j) := by first | exact Opd.pl rfl | exact Opd.gd rfl (fun h => h)) : YV P N w0 K F c ⟨dd, .binOp .gtr t x y t', ty, pos, af, gd⟩ (.bool (decide (j < i))) := y_gtr hx hy
theorem a_geq (hx : Opd N F c x (.int k i) := by first | exact Opd.pl rfl | exact Opd.gd rfl (fun h => h)) (hy : Opd N F c y (.int k j) := by first | exact Opd.pl rfl | exact Opd.gd rfl (fun h => h)) : YV P N w0 K F c ⟨dd, .binOp .geq t x y t', ty, pos, af, gd⟩ (.bool (decide (j ≤ i))) := y_geq hx hy
theorem a_eqlb {p q : Bool} [T : TBool P t] (hx : Opd N F c x (.bool p) := by first | exact Opd.pl rfl | exact Opd.gd rfl (fun h => h)) (hy : Opd N F c y (.bool q) := by first | exact Opd.pl rfl | exact Opd.gd rfl (fun h => h)) : YV P N w0 K F c ⟨dd, .binOp .eql t x y t', ty, pos, af, gd⟩ (.bool (p == q)) := y_eql_bool hx hy
theorem a_neqb {p q : Bool} [T : TBool P t] (hx : Opd N F c x (.bool p) := by first | exact Opd.pl rfl | exact Opd.gd rfl (fun h => h)) (hy : Opd N F c y (.bool q) := by first | exact Opd.pl rfl | exact Opd.gd rfl (fun h => h)) : YV P N w0 K F c ⟨dd, .binOp .neq t x y t', ty, pos, af, gd⟩ (.bool (!(p == q))) := y_neq_bool hx hy
end
end E
end Go.Proofs.YtpiiapoafmnhhaaGreat
