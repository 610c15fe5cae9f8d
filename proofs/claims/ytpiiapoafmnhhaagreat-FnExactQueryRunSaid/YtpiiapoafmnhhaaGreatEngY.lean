/- The engine, second part: operations that leave memory alone, each with its value; facts on types as instances. -/
import Derived.Test.YtpiiapoafmnhhaaGreatEng
import Derived.Laws.StructEq
namespace Go.Proofs.YtpiiapoafmnhhaaGreat
namespace E
set_option linter.unusedSimpArgs false
set_option linter.unusedVariables false
open Go Go.RowKit

/-! ### Facts on types, proved once a program by its table -/
class TOne (P : Program) (t : TypeId) : Prop where
  isAgg : ∀ w, (isAgg t).run P w = .ok false w
class TAgg (P : Program) (t : TypeId) (n : outParam Nat) : Prop where
  isAgg : ∀ w, (isAgg t).run P w = .ok true w
  size : ∀ w, (sizeOf t).run P w = .ok n w
class TSize (P : Program) (t : TypeId) (n : outParam Nat) : Prop where
  size : ∀ w, (sizeOf t).run P w = .ok n w
class TFld (P : Program) (t : TypeId) (f : Nat) (off : outParam Nat) : Prop where
  at_ : ∀ a w, (Instr.fieldAt t (.pointer (some a)) f).run P w = .ok (.pointer (some (a.add off))) w
class TSlc (P : Program) (t : TypeId) (e : outParam TypeId) : Prop where
  is : P.underlying t = some (.slice e)
class TInt (P : Program) (t : TypeId) (k : outParam IntKind) : Prop where
  is : P.underlying t = some (.int k)
class TStr (P : Program) (t : TypeId) : Prop where
  is : P.underlying t = some .string
class TBool (P : Program) (t : TypeId) : Prop where
  is : P.underlying t = some .bool
class TArr (P : Program) (t : TypeId) (n : outParam Nat) (e : outParam TypeId) : Prop where
  is : P.underlying t = some (.array n e)
/-- '==' at a struct of n cells, all of them of the kind int: all cells are the same. -/
class TEqI (P : Program) (t : TypeId) (n : outParam Nat) : Prop where
  guard : P.eqGuardType P.depth t = false
  eq : ∀ (is js : List Int), is.length = n → js.length = n → ∀ w, (Op.equalIn 10000 t (.agg (is.map (Value.int .i64)).toArray) (.agg (js.map (Value.int .i64)).toArray)).run P w = .ok (decide (is = js)) w

theorem eqF_nil {P : Program} (d : Nat) (xs ys : Array Value) (w : World) : (Op.eqFields d xs ys []).run P w = .ok true w := by simp [Op.eqFields]
theorem eqF_int {P : Program} {t : Nat} [T : TInt P t .i64] [T1 : TOne P t] (d : Nat) (xs ys : Array Value) (w : World) (fs : List Field) (f : Field) (a b : Int) (hn : f.name ≠ "_") (ht : f.type = t) (hx : xs[f.offset]? = some (.int .i64 a)) (hy : ys[f.offset]? = some (.int .i64 b)) (r : Bool) (hr : (Op.eqFields (d + 1) xs ys fs).run P w = .ok r w) :
    (Op.eqFields (d + 1) xs ys (f :: fs)).run P w = .ok (decide (a = b) && r) w := by
  subst ht
  simp only [Op.eqFields, hn, ne_eq, not_false_eq_true, if_true, Sem.run_bind, part, T1.isAgg, Result.andThen_ok, Bool.false_eq_true, if_false, hx, hy, Sem.run_pure, run_equalIn_int w d f.type .i64 .i64 a b T.is, Sem.run_ite]
  by_cases h : a = b
  · subst h; simp [hr]
  · simp [h]
theorem eqF_agg {P : Program} {t n : Nat} [T1 : TAgg P t n] (d : Nat) (xs ys : Array Value) (w : World) (fs : List Field) (f : Field) (q : Bool) (hn : f.name ≠ "_") (ht : f.type = t) (hq : (Op.equalIn (d + 1) t (.agg (xs.extract f.offset (f.offset + n))) (.agg (ys.extract f.offset (f.offset + n)))).run P w = .ok q w) (r : Bool) (hr : (Op.eqFields (d + 1) xs ys fs).run P w = .ok r w) :
    (Op.eqFields (d + 1) xs ys (f :: fs)).run P w = .ok (q && r) w := by
  subst ht
  simp only [Op.eqFields, hn, ne_eq, not_false_eq_true, if_true, Sem.run_bind, part, T1.isAgg, T1.size, Result.andThen_ok, Sem.run_pure, hq, Sem.run_ite]
  cases q
  · simp
  · simp [hr]

/-! ### The address of an element -/
def adr : Value → Addr
  | .slice (some a) _ _ => a
  | _ => ⟨0, 0, none⟩
def eptr (v : Value) (sz k j : Nat) : Value := .pointer (some ((adr v).add (k * sz + j)))

theorem add_of_add (a : Addr) (i j : Nat) : (a.add i).add j = a.add (i + j) := by
  unfold Addr.add
  by_cases hi : i = 0 <;> by_cases hj : j = 0 <;> simp [hi, hj, Nat.add_assoc]
theorem block_of_add (a : Addr) (n : Nat) : (a.add n).block = a.block := by unfold Addr.add; split <;> rfl

/-- The value v is a slice of n elements; where it has one it has an address. -/
def IsSl (v : Value) (n : Nat) : Prop := ∃ A c, v = .slice A n c ∧ n ≤ c ∧ c ≤ maxLen ∧ (0 < n → ∃ a, A = some a)

theorem IsSl.adr {v : Value} {n : Nat} (h : IsSl v n) (hn : 0 < n) : ∃ c, v = .slice (some (E.adr v)) n c := by
  obtain ⟨A, c, rfl, _, _, ha⟩ := h
  obtain ⟨a, rfl⟩ := ha hn
  exact ⟨c, rfl⟩

/-- In the world w, below block B, the slice v reads as the cells cs (sz an element, n elements). -/
structure Rd (w : World) (B : Nat) (sz : Nat) (v : Value) (n : Nat) (cs : List Value) : Prop where
  sl : IsSl v n
  len : cs.length = n * sz
  blk : 0 < n → (adr v).block < B
  cell : ∀ j u, cs[j]? = some u → w.cell? ((adr v).add j) = some u

theorem Rd.keep {w w' : World} {B sz n : Nat} {v : Value} {cs : List Value} (h : Rd w B sz v n cs) (hk : ∀ p : Addr, p.block < B → w'.cell? p = w.cell? p) : Rd w' B sz v n cs :=
  ⟨h.sl, h.len, h.blk, fun j u hu => by
    have hn : 0 < n := by
      rcases Nat.eq_zero_or_pos n with h0 | h0
      · have := h.len; subst h0; simp at this; subst this; simp at hu
      · exact h0
    rw [hk _ (by rw [block_of_add]; exact h.blk hn)]
    exact h.cell j u hu⟩
theorem Rd.more {w : World} {B B' sz n : Nat} {v : Value} {cs : List Value} (h : Rd w B sz v n cs) (hB : B ≤ B') : Rd w B' sz v n cs := ⟨h.sl, h.len, fun hn => Nat.lt_of_lt_of_le (h.blk hn) hB, h.cell⟩
theorem Rd.below {w w' : World} {B B' sz n : Nat} {v : Value} {cs : List Value} (h : Rd w B sz v n cs) (hb : Below B' w w') (hB : B ≤ B') : Rd w' B sz v n cs := h.keep fun _ hp => hb.cell (Nat.lt_of_lt_of_le hp hB)
/-- In a world of the walk, with all blocks in sight. -/
theorem Rd.now {w0 w : World} {K : List Ck} {sz n : Nat} {v : Value} {cs : List Value} (h : Rd w0 w0.heap.size sz v n cs) (hK : KOk w0 K w) : Rd w w.heap.size sz v n cs := (h.below hK.below (Nat.le_refl _)).more hK.below.size
theorem Rd.nil (w : World) (B sz : Nat) : Rd w B sz (.slice none 0 0) 0 [] := ⟨⟨none, 0, rfl, Nat.le_refl _, by unfold maxLen; omega, fun h => absurd h (by omega)⟩, by simp, fun h => absurd h (by omega), fun j u h => by simp at h⟩
theorem Rd.of_own {w : World} {B sz n : Nat} {e : TypeId} {v : Value} {cs : List Value} (h : w.ownsRow B e sz v n cs) : Rd w w.heap.size sz v n cs := by
  rcases h.2 with ⟨rfl, rfl⟩ | ⟨g, cap, cur, rfl, _, hh, hnc, hcm, _, _⟩
  · have := h.1
    simp at this
    subst this
    exact Rd.nil _ _ _
  · refine ⟨⟨_, _, rfl, hnc, hcm, fun _ => ⟨_, rfl⟩⟩, h.1, fun _ => ?_, h.cells (g := g) rfl⟩
    exact (World.ownsRow.lt h g rfl).2

/-! ### Quiet operations -/
/-- In every world in which the chunks K lie, under the condition c, the operation o yields v and leaves such a world. -/
def Y (P : Program) (N : Nat) (w0 : World) (K : List Ck) (F : List (Nat × En)) (c : Bool) (o : Oper) (v : Value) : Prop :=
  ∀ a w, FrOk N F a → c = true → KOk w0 K w → o.quietAt P a (KOk w0 K) w v

/-- The operation o yields v and leaves the very world. -/
def YV (P : Program) (N : Nat) (w0 : World) (K : List Ck) (F : List (Nat × En)) (c : Bool) (o : Oper) (v : Value) : Prop :=
  ∀ a w, FrOk N F a → c = true → KOk w0 K w → (execOp a.eval o).run P w = .ok (.value v) w

section
variable {P : Program} {N : Nat} {w0 : World} {K : List Ck} {F : List (Nat × En)} {c : Bool} {d : Option Tmp} {ty : TypeId} {pos : String} {af : Array Edge} {gd : Option (Nat × Bool)}

theorem YV.y {o : Oper} {v : Value} (h : YV P N w0 K F c o v) : Y P N w0 K F c o v := fun a w ha hc hw => by
  unfold Oper.quietAt
  rw [h a w ha hc hw]
  exact ⟨rfl, rfl⟩

theorem y_move {x : Operand} {v : Value} (h : Opd N F c x v) : YV P N w0 K F c ⟨d, .move x, ty, pos, af, gd⟩ v := fun a w ha hc _ => by
  simp [execOp, h a ha hc]
theorem y_assign {x : Operand} {v : Value} (h : Opd N F c x v) : YV P N w0 K F c ⟨d, .assign x, ty, pos, af, gd⟩ v := fun a w ha hc _ => by
  simp [execOp, h a ha hc]
theorem y_pick {q x y : Operand} {b : Bool} {u v : Value} (hq : Opd N F c q (.bool b)) (hx : Opd N F (c && b) x u) (hy : Opd N F (c && !b) y v) : YV P N w0 K F c ⟨d, .pick q x y, ty, pos, af, gd⟩ (if b = true then u else v) := fun a w ha hc _ => by
  simp only [execOp, hq a ha hc]
  cases b with
  | true => simp [asBool, hx a ha (by simp [hc])]
  | false => simp [asBool, hy a ha (by simp [hc])]
theorem y_pick_and {q x : Operand} {b u : Bool} (hq : Opd N F c q (.bool b)) (hx : Opd N F (c && b) x (.bool u)) : YV P N w0 K F c ⟨d, .pick q x (.const (.bool false)), ty, pos, af, gd⟩ (.bool (b && u)) := by
  have := y_pick (P := P) (w0 := w0) (K := K) (d := d) (ty := ty) (pos := pos) (af := af) (gd := gd) hq hx (y := .const (.bool false)) (v := .bool false) (Opd.pl rfl)
  cases b <;> simpa using this
theorem y_pick_or {q y : Operand} {b u : Bool} (hq : Opd N F c q (.bool b)) (hy : Opd N F (c && !b) y (.bool u)) : YV P N w0 K F c ⟨d, .pick q (.const (.bool true)) y, ty, pos, af, gd⟩ (.bool (b || u)) := by
  have := y_pick (P := P) (w0 := w0) (K := K) (d := d) (ty := ty) (pos := pos) (af := af) (gd := gd) hq (x := .const (.bool true)) (u := .bool true) (Opd.pl rfl) hy
  cases b <;> simpa using this
theorem y_extract {x : Operand} {i : Nat} {vs : Array Value} {v : Value} (h : Opd N F c x (.tuple vs)) (hi : vs[i]? = some v) : YV P N w0 K F c ⟨d, .extract x i, ty, pos, af, gd⟩ v := fun a w ha hc _ => by
  simp [execOp, h a ha hc, Instr.extract, hi]
theorem y_nilck {x : Operand} {p : Addr} (h : Opd N F c x (.pointer (some p))) : YV P N w0 K F c ⟨d, .nilCheck x, ty, pos, af, gd⟩ (.pointer (some p)) := fun a w ha hc _ => by
  simp [execOp, h a ha hc]
theorem y_fld {t : TypeId} {x : Operand} {f off : Nat} {p : Addr} [T : TFld P t f off] (h : Opd N F c x (.pointer (some p))) : YV P N w0 K F c ⟨d, .fieldAddr t x f, ty, pos, af, gd⟩ (.pointer (some (p.add off))) := fun a w ha hc _ => by
  simp [execOp, h a ha hc, T.at_]
theorem y_fld_box {t : TypeId} {x : Operand} {f off g : Nat} [T : TFld P t f off] (h : Opd N F c x (.pointer (some ⟨g, 0, none⟩))) : YV P N w0 K F c ⟨d, .fieldAddr t x f, ty, pos, af, gd⟩ (.pointer (some ⟨g, off, none⟩)) := by
  have := y_fld (P := P) (w0 := w0) (K := K) (d := d) (ty := ty) (pos := pos) (af := af) (gd := gd) (t := t) (f := f) h
  have e : Addr.add ⟨g, 0, none⟩ off = ⟨g, off, none⟩ := by unfold Addr.add; split <;> simp_all
  rwa [e] at this
theorem y_fld_box' {t : TypeId} {x : Operand} {f off g i : Nat} [T : TFld P t f off] (h : Opd N F c x (.pointer (some ⟨g, i, none⟩))) : YV P N w0 K F c ⟨d, .fieldAddr t x f, ty, pos, af, gd⟩ (.pointer (some ⟨g, i + off, none⟩)) := by
  have := y_fld (P := P) (w0 := w0) (K := K) (d := d) (ty := ty) (pos := pos) (af := af) (gd := gd) (t := t) (f := f) h
  have e : Addr.add ⟨g, i, none⟩ off = ⟨g, i + off, none⟩ := by unfold Addr.add; split <;> simp_all
  rwa [e] at this
theorem y_fld_el {t : TypeId} {x : Operand} {f off : Nat} {v : Value} {sz k : Nat} [T : TFld P t f off] (h : Opd N F c x (eptr v sz k 0)) : YV P N w0 K F c ⟨d, .fieldAddr t x f, ty, pos, af, gd⟩ (eptr v sz k off) := by
  have := y_fld (P := P) (w0 := w0) (K := K) (d := d) (ty := ty) (pos := pos) (af := af) (gd := gd) (t := t) (f := f) h
  rw [add_of_add] at this
  exact this
theorem y_fld_el' {t : TypeId} {x : Operand} {f off : Nat} {v : Value} {sz k j : Nat} [T : TFld P t f off] (h : Opd N F c x (eptr v sz k j)) : YV P N w0 K F c ⟨d, .fieldAddr t x f, ty, pos, af, gd⟩ (eptr v sz k (j + off)) := by
  have := y_fld (P := P) (w0 := w0) (K := K) (d := d) (ty := ty) (pos := pos) (af := af) (gd := gd) (t := t) (f := f) h
  rw [add_of_add, Nat.add_assoc] at this
  exact this

/-- What is a slice in every world of the walk. -/
def Sl (w0 : World) (K : List Ck) (v : Value) (n : Nat) : Prop := ∀ w, KOk w0 K w → IsSl v n
theorem Sl.rd {v : Value} {n B sz : Nat} {w : World} {cs : List Value} (h : Rd w B sz v n cs) : Sl w0 K v n := fun _ _ => h.sl
theorem Sl.is {v : Value} {n : Nat} (h : IsSl v n) : Sl w0 K v n := fun _ _ => h
theorem Sl.own {v : Value} {n sz : Nat} {e : TypeId} {xs : List Value} (h : .own v e sz n xs ∈ K) : Sl w0 K v n := fun _ hK => (Rd.of_own (hK.holds _ h)).sl

theorem y_len {x : Operand} {t : TypeId} {v : Value} {n : Nat} {e : TypeId} [T : TSlc P t e] (h : Opd N F c x v) (hv : Sl w0 K v n) :
    YV P N w0 K F c ⟨d, .call { callee := .builtin .len, args := #[x], argTypes := #[t] }, ty, pos, af, gd⟩ (.int .i64 (n : Int)) := fun a w ha hc hw => by
  obtain ⟨A, cp, rfl, _⟩ := hv w hw
  simp [execOp, resolve, invoke, builtin, h a ha hc, Builtin.len_, run_underlying T.is, goInt]
theorem y_len_str {x : Operand} {t : TypeId} {s : ByteArray} [T : TStr P t] (h : Opd N F c x (.string s)) :
    YV P N w0 K F c ⟨d, .call { callee := .builtin .len, args := #[x], argTypes := #[t] }, ty, pos, af, gd⟩ (.int .i64 (s.size : Int)) := fun a w ha hc hw => by
  simp [execOp, resolve, invoke, builtin, h a ha hc, Builtin.len_, run_underlying T.is, goInt]

theorem y_idx {x ix : Operand} {t e : TypeId} {v : Value} {n sz : Nat} {kd : IntKind} {i : Int} {k : Nat} [T : TSlc P t e] [S : TSize P e sz] (h : Opd N F c x v) (hv : Sl w0 K v n) (hi : Opd N F c ix (.int kd i)) (hk : c = true → i = (k : Int) ∧ k < n) :
    YV P N w0 K F c ⟨d, .indexAddr t x ix, ty, pos, af, gd⟩ (eptr v sz k 0) := fun a w ha hc hw => by
  obtain ⟨rfl, hlt⟩ := hk hc
  obtain ⟨cp, hv'⟩ := (hv w hw).adr (by omega)
  have h0 : a.eval x = .slice (some (adr v)) n cp := by rw [h a ha hc]; exact hv'
  simp [execOp, h0, hi a ha hc, Instr.indexAt, asIntOf, run_underlying T.is, S.size, hlt, eptr]

/-- What a load finds, in every world of the walk. -/
def Ld (w0 : World) (K : List Ck) (c : Bool) (p : Value) (vs : List Value) : Prop := c = true → ∃ a, p = .pointer (some a) ∧ ∀ w, KOk w0 K w → ∀ j u, vs[j]? = some u → w.cell? (a.add j) = some u

theorem run_loadCells_of (w : World) (a : Addr) : ∀ (vs : List Value) (i : Nat) (acc : Array Value), (∀ j u, vs[j]? = some u → w.cell? (a.add (i + j)) = some u) → (loadCellsFrom a i vs.length acc).run P w = .ok (acc ++ vs.toArray) w
  | [], i, acc, _ => by simp [loadCellsFrom]
  | v :: vs, i, acc, h => by
    have h0 := h 0 v rfl
    simp only [Nat.add_zero] at h0
    simp only [List.length_cons, loadCellsFrom, Sem.run_bind, run_load, h0, Result.andThen_ok]
    rw [run_loadCells_of w a vs (i + 1) (acc.push v) (fun j u hu => by have := h (j + 1) u (by simpa using hu); rwa [show i + (j + 1) = i + 1 + j from by omega] at this)]
    simp

theorem y_load {x : Operand} {t : TypeId} {p v : Value} [T : TOne P t] (h : Opd N F c x p) (hl : Ld w0 K c p [v]) : YV P N w0 K F c ⟨d, .load t x, ty, pos, af, gd⟩ v := fun a w ha hc hw => by
  obtain ⟨ad, rfl, hcell⟩ := hl hc
  have h1 := hcell w hw 0 v rfl
  have e : ad.add 0 = ad := rfl
  rw [e] at h1
  simp [execOp, h a ha hc, Instr.loadAt, Instr.sureAddr, loadVar, T.isAgg, h1]
theorem y_load_agg {x : Operand} {t : TypeId} {p : Value} {vs : List Value} {n : Nat} [T : TAgg P t n] (h : Opd N F c x p) (hl : Ld w0 K c p vs) (hn : vs.length = n) : YV P N w0 K F c ⟨d, .load t x, ty, pos, af, gd⟩ (.agg vs.toArray) := fun a w ha hc hw => by
  obtain ⟨ad, rfl, hcell⟩ := hl hc
  subst hn
  have h1 := run_loadCells_of (P := P) w ad vs 0 #[] (fun j u hu => by rw [Nat.zero_add]; exact hcell w hw j u hu)
  simp [execOp, h a ha hc, Instr.loadAt, Instr.sureAddr, loadVar, T.isAgg, T.size, loadCells, h1]

theorem Ld.box {g i : Nat} {t : TypeId} {cs vs : List Value} (hm : .box g t cs ∈ K) (hv : ∀ j u, vs[j]? = some u → cs[i + j]? = some u) : Ld w0 K c (.pointer (some ⟨g, i, none⟩)) vs := fun _ =>
  ⟨_, rfl, fun w hw j u hu => by
    have h2 := (hw.holds _ hm).2
    have e : Addr.add ⟨g, i, none⟩ j = ⟨g, i + j, none⟩ := by unfold Addr.add; split <;> simp_all
    rw [e]
    simp only [World.cell?, h2]
    simpa using hv j u hu⟩
theorem Ld.rd {v : Value} {sz n k j : Nat} {cs vs : List Value} (h : Rd w0 w0.heap.size sz v n cs) (hk : c = true → k < n) (hv : c = true → ∀ i u, vs[i]? = some u → cs[k * sz + j + i]? = some u) : Ld w0 K c (eptr v sz k j) vs := fun hc =>
  ⟨_, rfl, fun w hw i u hu => by
    rw [add_of_add, hw.below.cell (by rw [block_of_add]; exact h.blk (by have := hk hc; omega))]
    exact h.cell _ _ (hv hc i u hu)⟩
theorem Ld.own {v : Value} {e : TypeId} {sz n k j : Nat} {cs vs : List Value} (hm : .own v e sz n cs ∈ K) (hk : c = true → k < n) (hv : c = true → ∀ i u, vs[i]? = some u → cs[k * sz + j + i]? = some u) : Ld w0 K c (eptr v sz k j) vs := fun hc =>
  ⟨_, rfl, fun w hw i u hu => by
    rw [add_of_add]
    exact (Rd.of_own (hw.holds _ hm)).cell _ _ (hv hc i u hu)⟩

/-! ### Whole numbers -/
theorem eqGuard_int (op : BinOp) (t : TypeId) (x y : Operand) (k k' : IntKind) (a b : Int) (w : World) : (eqGuard op t x y (.int k a) (.int k' b)).run P w = .ok () w := by
  unfold eqGuard; cases op <;> simp
theorem eqGuard_bool (op : BinOp) (t : TypeId) (x y : Operand) (a b : Bool) (w : World) : (eqGuard op t x y (.bool a) (.bool b)).run P w = .ok () w := by
  unfold eqGuard; cases op <;> simp
theorem eqGuard_str (op : BinOp) (t : TypeId) (x y : Operand) (a b : ByteArray) (w : World) : (eqGuard op t x y (.string a) (.string b)).run P w = .ok () w := by
  unfold eqGuard; cases op <;> simp

variable {x y : Operand} {k : IntKind} {i j : Int} {t t' : TypeId}
theorem y_add (hx : Opd N F c x (.int k i)) (hy : Opd N F c y (.int k j)) : YV P N w0 K F c ⟨d, .binOp .add t x y t', ty, pos, af, gd⟩ (.int k (k.wrap (i + j))) := fun a w ha hc _ => by
  simp [execOp, hx a ha hc, hy a ha hc, eqGuard_int, binOp, Op.intArith]
theorem y_sub (hx : Opd N F c x (.int k i)) (hy : Opd N F c y (.int k j)) : YV P N w0 K F c ⟨d, .binOp .sub t x y t', ty, pos, af, gd⟩ (.int k (k.wrap (i - j))) := fun a w ha hc _ => by
  simp [execOp, hx a ha hc, hy a ha hc, eqGuard_int, binOp, Op.intArith]
theorem y_mul (hx : Opd N F c x (.int k i)) (hy : Opd N F c y (.int k j)) : YV P N w0 K F c ⟨d, .binOp .mul t x y t', ty, pos, af, gd⟩ (.int k (k.wrap (i * j))) := fun a w ha hc _ => by
  simp [execOp, hx a ha hc, hy a ha hc, eqGuard_int, binOp, Op.intArith]
theorem y_quo (hx : Opd N F c x (.int k i)) (hy : Opd N F c y (.int k j)) (hj : j ≠ 0) : YV P N w0 K F c ⟨d, .binOp .quo t x y t', ty, pos, af, gd⟩ (.int k (k.wrap (i.tdiv j))) := fun a w ha hc _ => by
  simp [execOp, hx a ha hc, hy a ha hc, eqGuard_int, binOp, Op.intDiv, hj]
theorem y_rem (hx : Opd N F c x (.int k i)) (hy : Opd N F c y (.int k j)) (hj : j ≠ 0) : YV P N w0 K F c ⟨d, .binOp .rem t x y t', ty, pos, af, gd⟩ (.int k (i.tmod j)) := fun a w ha hc _ => by
  simp [execOp, hx a ha hc, hy a ha hc, eqGuard_int, binOp, Op.intDiv, hj]
theorem wrap_i64_of {z : Int} (h : -9223372036854775808 ≤ z ∧ z ≤ 9223372036854775807) : IntKind.i64.wrap z = z := IntWalk.i64_in _ h
theorem y_add_in (hx : Opd N F c x (.int .i64 i)) (hy : Opd N F c y (.int .i64 j)) (h : c = true → -9223372036854775808 ≤ i + j ∧ i + j ≤ 9223372036854775807) : YV P N w0 K F c ⟨d, .binOp .add t x y t', ty, pos, af, gd⟩ (.int .i64 (i + j)) := fun a w ha hc hw => by
  have := y_add (P := P) (w0 := w0) (K := K) (d := d) (ty := ty) (pos := pos) (af := af) (gd := gd) (t := t) (t' := t') hx hy a w ha hc hw
  rwa [wrap_i64_of (h hc)] at this
theorem y_sub_in (hx : Opd N F c x (.int .i64 i)) (hy : Opd N F c y (.int .i64 j)) (h : c = true → -9223372036854775808 ≤ i - j ∧ i - j ≤ 9223372036854775807) : YV P N w0 K F c ⟨d, .binOp .sub t x y t', ty, pos, af, gd⟩ (.int .i64 (i - j)) := fun a w ha hc hw => by
  have := y_sub (P := P) (w0 := w0) (K := K) (d := d) (ty := ty) (pos := pos) (af := af) (gd := gd) (t := t) (t' := t') hx hy a w ha hc hw
  rwa [wrap_i64_of (h hc)] at this
theorem y_mul_in (hx : Opd N F c x (.int .i64 i)) (hy : Opd N F c y (.int .i64 j)) (h : c = true → -9223372036854775808 ≤ i * j ∧ i * j ≤ 9223372036854775807) : YV P N w0 K F c ⟨d, .binOp .mul t x y t', ty, pos, af, gd⟩ (.int .i64 (i * j)) := fun a w ha hc hw => by
  have := y_mul (P := P) (w0 := w0) (K := K) (d := d) (ty := ty) (pos := pos) (af := af) (gd := gd) (t := t) (t' := t') hx hy a w ha hc hw
  rwa [wrap_i64_of (h hc)] at this
theorem y_eql (hx : Opd N F c x (.int k i)) (hy : Opd N F c y (.int k j)) : YV P N w0 K F c ⟨d, .binOp .eql t x y t', ty, pos, af, gd⟩ (.bool (decide (i = j))) := fun a w ha hc _ => by
  simp [execOp, hx a ha hc, hy a ha hc, eqGuard_int, binOp, Op.intCmp]; rfl
theorem y_neq (hx : Opd N F c x (.int k i)) (hy : Opd N F c y (.int k j)) : YV P N w0 K F c ⟨d, .binOp .neq t x y t', ty, pos, af, gd⟩ (.bool (!decide (i = j))) := fun a w ha hc _ => by
  simp [execOp, hx a ha hc, hy a ha hc, eqGuard_int, binOp, Op.intCmp, bne]; rfl
theorem y_lss (hx : Opd N F c x (.int k i)) (hy : Opd N F c y (.int k j)) : YV P N w0 K F c ⟨d, .binOp .lss t x y t', ty, pos, af, gd⟩ (.bool (decide (i < j))) := fun a w ha hc _ => by
  simp [execOp, hx a ha hc, hy a ha hc, eqGuard_int, binOp, Op.intCmp]
theorem y_leq (hx : Opd N F c x (.int k i)) (hy : Opd N F c y (.int k j)) : YV P N w0 K F c ⟨d, .binOp .leq t x y t', ty, pos, af, gd⟩ (.bool (decide (i ≤ j))) := fun a w ha hc _ => by
  simp [execOp, hx a ha hc, hy a ha hc, eqGuard_int, binOp, Op.intCmp]
theorem y_gtr (hx : Opd N F c x (.int k i)) (hy : Opd N F c y (.int k j)) : YV P N w0 K F c ⟨d, .binOp .gtr t x y t', ty, pos, af, gd⟩ (.bool (decide (j < i))) := fun a w ha hc _ => by
  simp [execOp, hx a ha hc, hy a ha hc, eqGuard_int, binOp, Op.intCmp]
theorem y_geq (hx : Opd N F c x (.int k i)) (hy : Opd N F c y (.int k j)) : YV P N w0 K F c ⟨d, .binOp .geq t x y t', ty, pos, af, gd⟩ (.bool (decide (j ≤ i))) := fun a w ha hc _ => by
  simp [execOp, hx a ha hc, hy a ha hc, eqGuard_int, binOp, Op.intCmp]
/-- Cells of the kind int. -/
inductive IntsL : List Value → List Int → Prop where
  | nil : IntsL [] []
  | cons (i : Int) (vs : List Value) (is : List Int) (h : IntsL vs is) : IntsL (.int .i64 i :: vs) (i :: is)
theorem IntsL.eq {vs : List Value} {is : List Int} (h : IntsL vs is) : vs = is.map (Value.int .i64) := by
  induction h with
  | nil => rfl
  | cons i vs is _ ih => rw [ih]; rfl
theorem y_eqs {n : Nat} {vs us : List Value} {is js : List Int} [T : TEqI P t n] (hx : Opd N F c x (.agg vs.toArray)) (hy : Opd N F c y (.agg us.toArray)) (hv : IntsL vs is) (hu : IntsL us js) (hi : is.length = n) (hj : js.length = n) : YV P N w0 K F c ⟨d, .binOp .eql t x y t', ty, pos, af, gd⟩ (.bool (decide (is = js))) := fun a w ha hc _ => by
  rw [hv.eq] at hx
  rw [hu.eq] at hy
  simp only [execOp, hx a ha hc, hy a ha hc, Sem.run_bind, run_eqGuard_agg w .eql t _ _ _ _ T.guard, Result.andThen_ok, run_eql_struct, T.eq is js hi hj w, Sem.run_pure]
theorem y_neqs {n : Nat} {vs us : List Value} {is js : List Int} [T : TEqI P t n] (hx : Opd N F c x (.agg vs.toArray)) (hy : Opd N F c y (.agg us.toArray)) (hv : IntsL vs is) (hu : IntsL us js) (hi : is.length = n) (hj : js.length = n) : YV P N w0 K F c ⟨d, .binOp .neq t x y t', ty, pos, af, gd⟩ (.bool (!decide (is = js))) := fun a w ha hc _ => by
  rw [hv.eq] at hx
  rw [hu.eq] at hy
  simp only [execOp, hx a ha hc, hy a ha hc, Sem.run_bind, run_eqGuard_agg w .neq t _ _ _ _ T.guard, Result.andThen_ok, run_neq_struct, T.eq is js hi hj w, Sem.run_pure]
theorem y_conv {k1 k2 : IntKind} [T1 : TInt P t k1] [T2 : TInt P t' k2] (hx : Opd N F c x (.int k1 i)) : YV P N w0 K F c ⟨d, .convert t t' x, ty, pos, af, gd⟩ (.int k2 (k2.wrap i)) := fun a w ha hc _ => by
  simp [execOp, hx a ha hc, convert, run_underlying T1.is, run_underlying T2.is, Conv.intToInt]
theorem y_bits {op : BinOp} (hop : op = .and ∨ op = .or ∨ op = .xor ∨ op = .andNot) {v : Int} (hx : Opd N F c x (.int k i)) (hy : Opd N F c y (.int k j)) (hr : ∀ w, (Op.intBits op k i j).run P w = .ok (.int k v) w) : YV P N w0 K F c ⟨d, .binOp op t x y t', ty, pos, af, gd⟩ (.int k v) := fun a w ha hc _ => by
  rcases hop with rfl | rfl | rfl | rfl <;> simp [execOp, hx a ha hc, hy a ha hc, eqGuard_int, binOp, hr]
theorem y_not {b : Bool} (hx : Opd N F c x (.bool b)) : YV P N w0 K F c ⟨d, .unOp .not t x, ty, pos, af, gd⟩ (.bool (!b)) := fun a w ha hc _ => by
  simp [execOp, hx a ha hc, Op.unary]
theorem run_eql_bool (t : TypeId) (p q : Bool) (w : World) (ht : P.underlying t = some .bool) : (binOp .eql t (.bool p) (.bool q)).run P w = .ok (.bool (p == q)) w := by
  have h : ∀ d : Nat, (Op.equalIn (d + 1) t (.bool p) (.bool q)).run P w = .ok (p == q) w := fun d => by simp [Op.equalIn, run_underlying ht]
  simp only [binOp]
  simp [Op.equal, Op.maxDepth, h 9999]
theorem run_neq_bool (t : TypeId) (p q : Bool) (w : World) (ht : P.underlying t = some .bool) : (binOp .neq t (.bool p) (.bool q)).run P w = .ok (.bool (!(p == q))) w := by
  have h : ∀ d : Nat, (Op.equalIn (d + 1) t (.bool p) (.bool q)).run P w = .ok (p == q) w := fun d => by simp [Op.equalIn, run_underlying ht]
  simp only [binOp]
  simp [Op.equal, Op.maxDepth, h 9999]
theorem y_eql_bool {p q : Bool} [T : TBool P t] (hx : Opd N F c x (.bool p)) (hy : Opd N F c y (.bool q)) : YV P N w0 K F c ⟨d, .binOp .eql t x y t', ty, pos, af, gd⟩ (.bool (p == q)) := fun a w ha hc _ => by
  simp only [execOp, hx a ha hc, hy a ha hc, Sem.run_bind, eqGuard_bool, Result.andThen_ok, run_eql_bool t p q w T.is, Sem.run_pure]
theorem y_neq_bool {p q : Bool} [T : TBool P t] (hx : Opd N F c x (.bool p)) (hy : Opd N F c y (.bool q)) : YV P N w0 K F c ⟨d, .binOp .neq t x y t', ty, pos, af, gd⟩ (.bool (!(p == q))) := fun a w ha hc _ => by
  simp only [execOp, hx a ha hc, hy a ha hc, Sem.run_bind, eqGuard_bool, Result.andThen_ok, run_neq_bool t p q w T.is, Sem.run_pure]

/-! ### A call whose answer is a value without memory -/
theorem y_call {f : FuncId} {fn : Func} {xs : Array Operand} {ts : Array TypeId} {vs : List Value} {v : Value} (hf : P.funcs[f]? = some fn) (hb : fn.body.isSome = true) (hn : fn.name ≠ "runtime.NumGoroutine")
    (hx : Opds N F c xs.toList vs) (hcall : c = true → ∀ w, KOk w0 K w → Calls P f vs.toArray w fun e w' => e = .returned v ∧ Below w.heap.size w w') :
    Y P N w0 K F c ⟨d, .call { callee := .value (.func f), args := xs, argTypes := ts }, ty, pos, af, gd⟩ v := fun a w ha hc hw => by
  have h1 : (xs.map a.eval) = vs.toArray := by
    have := hx a ha hc
    apply Array.ext'
    simpa using this
  unfold Oper.quietAt
  have hrun : (execOp a.eval ⟨d, .call { callee := .value (.func f), args := xs, argTypes := ts }, ty, pos, af, gd⟩).run P w = .ok (.enter f vs.toArray) w := by
    have hnone : fn.body ≠ none := by cases hB : fn.body <;> simp_all
    simp [execOp, resolve, Act.eval, Deferred.ofValue, invoke, callFunc, h1, hf, hn, hnone]
  rw [hrun]
  exact ⟨rfl, (hcall hc w hw).mono fun e w' ⟨he, hb'⟩ => ⟨he, hw.ext hb'⟩⟩
end
end E
end Go.Proofs.YtpiiapoafmnhhaaGreat
