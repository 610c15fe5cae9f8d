/- The engine, eighth part: rows that are made, stores into typed rows, and calls that change what the caller owns. -/
import Derived.Test.YtpiiapoafmnhhaaGreatEngB
import Derived.Great.BuildSlice
namespace Go.Proofs.YtpiiapoafmnhhaaGreat
namespace E
set_option linter.unusedSimpArgs false
set_option linter.unusedVariables false
open Go Go.RowKit

class TMk (P : Program) (e : TypeId) (zs : outParam (List Value)) (bytes : outParam Nat) : Prop where
  row : ∃ i z, P.info? e = some i ∧ i.zero = some z ∧ i.size = zs.length ∧ i.bytes = bytes ∧ z.cells = zs.toArray

theorem madeCells_rep {zs : List Value} (hz : 0 < zs.length) (n : Nat) : madeCells zs.toArray (n * zs.length) = ((List.replicate n zs).flatten).toArray := by
  apply Array.ext'
  simp only [madeCells, Array.toList_map, Array.toList_range]
  induction n with
  | zero => simp
  | succ n ih =>
    rw [Nat.add_mul, Nat.one_mul, List.range_add, List.map_append, ih, List.replicate_succ', List.flatten_append]
    congr 1
    simp only [List.flatten_cons, List.flatten_nil, List.append_nil, List.map_map]
    apply List.ext_getElem (by simp)
    intro i h1 h2
    have hi : i < zs.length := by simpa using h1
    simp [Nat.mul_add_mod_of_lt, Nat.add_comm, Nat.add_mod, Nat.mod_eq_of_lt hi, hi]
theorem cells_replicate {α : Type} [Flat α] (z : α) (n : Nat) : cells (List.replicate n z) = (List.replicate n (Flat.f z)).flatten := by
  unfold cells
  induction n with
  | zero => rfl
  | succ n ih => simp only [List.replicate_succ, List.flatMap_cons, List.flatten_cons, ih]

theorem setAt_full : ∀ (vs cs : List Value), vs.length = cs.length → setAt cs 0 vs = vs
  | [], [], _ => rfl
  | v :: vs, c :: cs, h => by
    simp only [setAt, List.set_cons_zero]
    rw [setAt_cons, setAt_full vs cs (by simpa using h)]
section
variable {P : Program} {t e : TypeId} {zs : List Value} {bytes : Nat}
theorem run_bs0 [T : TSlc P t e] [M : TMk P e zs bytes] (w : World) : (Instr.buildSlice t 0 #[]).run P w = .ok (.slice (some ⟨w.heap.size, 0, none⟩) 0 0) (w.alloc (.cells #[] e)) := by
  obtain ⟨i, zz, h1, h2, h3, h4, h5⟩ := M.row
  simp [Instr.buildSlice, run_underlying T.is, sizeOf, typeInfo, h1, Instr.fill, newRow, Array.range_zero']
theorem run_bs1 [T : TSlc P t e] [M : TMk P e zs bytes] (v : Value) (vs : List Value) (hv : v.cells = vs.toArray) (hl : vs.length = zs.length) (hpos : 0 < zs.length) (hsm : zs.length ≤ 2 ^ 24) (w : World) : (Instr.buildSlice t 1 #[(0, v)]).run P w = .ok (.slice (some ⟨w.heap.size, 0, none⟩) 1 1) (w.alloc (.cells vs.toArray e)) := by
  obtain ⟨i, zz, h1, h2, h3, h4, h5⟩ := M.row
  have h6 : ((Array.range (1 * zs.length)).map (zs.toArray[· % zs.toArray.size]!)) = zs.toArray := by
    have h7 := madeCells_rep hpos 1
    simpa [madeCells] using h7
  have hne : ¬ (1 * zs.length = 0) := by omega
  have hle : ¬ (1 * zs.length > 2 ^ 24) := by omega
  have hf : Instr.fill (fun i => some (i * zs.length, zs.length)) zs.toArray [(0, v)] = some vs.toArray := by
    simp only [Instr.fill, hv]
    have e : (vs.toArray.size ≠ zs.length || 0 * zs.length + vs.toArray.size > zs.toArray.size) = false := by simp [hl]
    rw [if_neg (by rw [e]; simp)]
    rw [fold_setAt, Nat.zero_mul, setAt_full _ _ hl]
  exact run_buildSlice w t e 1 _ _ i zz T.is h1 h2 (by rw [h3]; exact hle) (by rw [h3]; exact hne) (by rw [h3, h5, h6]; exact hf)
end

/-! ### Rows that are filled from the front -/
theorem fill_get {α : Type} {k : Nat} (xs : List α) (z : α) (h : k < xs.length) : (xs.take k ++ List.replicate (xs.length - k) z)[k]? = some z := by
  rw [List.getElem?_append_right (by simp; omega)]
  simp only [List.length_take, Nat.min_eq_left (Nat.le_of_lt h), Nat.sub_self]
  rw [List.getElem?_replicate, if_pos (by omega)]
theorem fill_set {α : Type} {k : Nat} (xs : List α) (z : α) {x : α} (hx : xs[k]? = some x) : (xs.take k ++ List.replicate (xs.length - k) z).set k x = xs.take (k + 1) ++ List.replicate (xs.length - (k + 1)) z := by
  obtain ⟨h, rfl⟩ := List.getElem?_eq_some_iff.1 hx
  rw [List.set_append_right _ _ (by simp; omega)]
  simp only [List.length_take, Nat.min_eq_left (Nat.le_of_lt h), Nat.sub_self]
  rw [show xs.length - k = (xs.length - (k + 1)) + 1 from by omega, List.replicate_succ, List.set_cons_zero, List.take_succ_eq_append_getElem h, List.append_assoc]
  rfl
theorem KSub.ownF {α : Type} [Flat α] {K K1 K' : List Ck} {v : Value} {e : TypeId} {xs xs' : List α} (hp : Pick K (E.ownF e v xs) K1) (hx : xs = xs') (h : KSub K1 K') : KSub K (E.ownF e v xs' :: K') := by
  subst hx
  exact KSub.pick hp h
/-- A row that is marked: its elements from k on. -/
class Mark (α : Type) where
  n : Nat
  el : Int → α
def marks (α : Type) [Mark α] (n : Nat) (k : Int) : List α := (List.range n).map fun i => Mark.el (k + ((i * Mark.n α : Nat) : Int))
theorem marks_length {α : Type} [Mark α] (n : Nat) (k : Int) : (marks α n k).length = n := by simp [marks]
theorem marks_get {α : Type} [Mark α] {n : Nat} {k : Int} {i : Nat} (h : i < n) : (marks α n k)[i]? = some (Mark.el (k + ((i * Mark.n α : Nat) : Int))) := by
  simp [marks, h]
theorem mark_get {α : Type} [Mark α] {xs : List α} {k : Int} {i : Nat} {x : α} (h : xs[i]? = some x) : (marks α i k ++ xs.drop i)[i]? = some x := by
  rw [List.getElem?_append_right (by simp [marks_length])]
  simpa [marks_length] using h
theorem mark_set {α : Type} [Mark α] {xs : List α} {k : Int} {i : Nat} {x : α} (h : xs[i]? = some x) : (marks α i k ++ xs.drop i).set i (Mark.el (k + ((i * Mark.n α : Nat) : Int))) = marks α (i + 1) k ++ xs.drop (i + 1) := by
  obtain ⟨hl, rfl⟩ := List.getElem?_eq_some_iff.1 h
  rw [List.set_append_right _ _ (by simp [marks_length])]
  simp only [marks_length, Nat.sub_self]
  rw [List.drop_eq_getElem_cons hl, List.set_cons_zero]
  simp [marks, List.range_succ]

section
variable {P : Program} {N : Nat} {w0 : World} {K K' Kp : List Ck} {F : List (Nat × En)} {c : Bool} {Q : Exit → Act → World → Prop} {ops : Array Oper} {rest : List Oper} {d : Nat} {dd : Option Tmp} {ty : TypeId} {pos : String} {af : Array Edge} {gd : Option (Nat × Bool)}
variable {x y : Operand} {t t' e : TypeId} {u v : Value} {o : Oper} {Kn : Act → World → Prop}

theorem ho_make {α : Type} [Flat α] {n bytes : Nat} {zs : List Value} [T : TSlc P t e] [M : TMk P e zs bytes] (z : α) (hz : Flat.f z = zs) (hpos : 0 < Flat.k α) (hN : d < N) (hx : Opd N F true x (.int .i64 (n : Int))) (hy : Opd N F true y (.int .i64 (n : Int))) (hb : bytes * n ≤ 281474976710656 ∧ n ≤ maxLen)
    (hr : ∀ v', v'.oneCell' = true → At N w0 Kn ((d, .pl v') :: F) (ownF e v' (List.replicate n z) :: K)) : HO P N w0 Q ⟨some d, .makeSlice t x y, ty, pos, af, none⟩ Kn F K := fun a w ha hw => by
  obtain ⟨i, zz, h1, h2, h3, h4, h5⟩ := M.row
  have hk : zs.length = Flat.k α := by rw [← hz]; exact Flat.len z
  have h6 := run_make (P := P) w t e i zz T.is h1 h2 .i64 .i64 (n : Int) (n : Int) (by omega) (Int.le_refl _) (by rw [h4, ← Int.natCast_mul]; omega) (by have := hb.2; simp only [maxLen] at this; omega)
  rw [h5, h3, Int.toNat_natCast, madeCells_rep (by omega), ← hz, ← cells_replicate] at h6
  refine ho_val _ _ ?_ (hr (.slice (some ⟨w.heap.size, 0, none⟩) n n) rfl _ _ (ha.put d (.pl (.slice (some ⟨w.heap.size, 0, none⟩) n n)) _ hN rfl) (hw.push (w' := w.alloc (.cells (cells (List.replicate n z)).toArray e)) (Below.alloc' w _) (ownF e (.slice (some ⟨w.heap.size, 0, none⟩) n n) (List.replicate n z)) ?_ (fun g hg => by simp only [ownF, Ck.blk, Value.ownBlock, Option.some.injEq] at hg; omega)))
  · simp only [execOp, Sem.run_bind]
    rw [hx a ha rfl, hy a ha rfl, h6]
    simp [En.val]
  · refine ⟨cells_length _, Or.inr ⟨w.heap.size, n, (cells (List.replicate n z)).toArray, ?_, hw.below.size, alloc_new w _, ?_, hb.2, ?_, ?_⟩⟩
    · simp
    · simp
    · simp [cells_length]
    · rw [← cells_length]; simp
/-- A store into a typed row. -/
theorem ho_set {α : Type} [Flat α] {vs : List Value} {xs : List α} {a a' : α} {k j sz m : Nat} [T : TSize P t m] (hx : Opd N F true x (eptr v sz k j)) (hsz : sz = Flat.k α) (hp : Pick K (ownF e v xs) K') (hy : Opd N F true y u) (hv : u.cells = vs.toArray) (hm : vs.length = m) (h1 : ∀ u ∈ vs, u.oneCell' = true)
    (ha : xs[k]? = some a) (hs : SetN (Flat.f a) j vs (Flat.f a')) (hr : At N w0 Kn F (ownF e v (xs.set k a') :: K')) : HO P N w0 Q ⟨none, .store t x y, ty, pos, af, none⟩ Kn F K := by
  subst hsz
  have hfit := hs.fits
  rw [Flat.len] at hfit
  refine ho_store_own hx hy hv hm h1 hp (List.getElem?_eq_some_iff.1 ha).1 (by omega) ?_
  rw [cells_set xs k j a a' vs ha hs]
  have : xs.length = (xs.set k a').length := by simp
  rw [this]
  exact hr

/-- The call is entered with what the caller owns. -/
theorem enterK {f : FuncId} {fn : Func} {c : Code} {args : List Value} {w : World} {R : Ending → World → Prop} (hw : KOk w0 K w) (hf : P.funcs[f]? = some fn) (hb : fn.body = some c) (hN : fn.ntmps = N) (hl : args.length ≤ N)
    (h : HC P N w0 c (bodyPost P fn R) (argsF args 0) K) : Calls P f args.toArray w R := by
  refine calls_of_wp hf hb (h _ w ?_ hw)
  refine ⟨by simp [hN]; omega, rfl, fun n e he => ?_⟩
  obtain ⟨v, rfl, _, hv⟩ := argsF_look args 0 n e he
  simp only [Nat.sub_zero] at hv
  have hlt : n < args.length := (List.getElem?_eq_some_iff.1 hv).1
  simp only [En.val, Array.getD_eq_getD_getElem?]
  rw [Array.getElem?_append_left (by simpa using hlt)]
  simp [hv]
/-- What a call leaves that was handed the caller's chunks: a value, and the caller's chunks as they are now. -/
def RetK {α : Type} (val : α → Value) (Kr : α → List Ck) (w0 : World) (e : Ending) (w' : World) : Prop := ∃ x, e = .returned (val x) ∧ KOk w0 (Kr x) w'
theorem ho_callK {α : Type} {val : α → Value} {Kr : α → List Ck} {f : FuncId} {fn : Func} {xs : Array Operand} {ts : Array TypeId} {vs : List Value} (hf : P.funcs[f]? = some fn) (hb : fn.body.isSome = true) (hn : fn.name ≠ "runtime.NumGoroutine") (hN : d < N)
    (hx : Opds N F true xs.toList vs) (hcall : ∀ w, KOk w0 K w → Calls P f vs.toArray w (RetK val Kr w0)) (hr : ∀ x, At N w0 Kn ((d, .pl (val x)) :: F) (Kr x)) :
    HO P N w0 Q ⟨some d, .call { callee := .value (.func f), args := xs, argTypes := ts }, ty, pos, af, none⟩ Kn F K := fun a w ha hw => by
  unfold Oper.wp
  simp only []
  rw [run_call hf hb hn (hx a ha rfl)]
  refine (hcall w hw).mono fun e w' ⟨x, he, hk⟩ => ?_
  subst he
  exact hr x _ _ (ha.put d (.pl (val x)) _ hN rfl) hk

theorem om {α : Type} [Flat α] {n bytes : Nat} {zs : List Value} [T : TSlc P t e] [M : TMk P e zs bytes] (z : α) (hr : ∀ v', v'.oneCell' = true → At N w0 Kn ((d, .pl v') :: F) (ownF e v' (List.replicate n z) :: K)) (hb : bytes * n ≤ 281474976710656 ∧ n ≤ maxLen) (hz : Flat.f z = zs := by rfl) (hpos : 0 < Flat.k α := by decide) (hN : d < N := by decide) (hx : Opd N F true x (.int .i64 (n : Int)) := by exact Opd.pl rfl) (hy : Opd N F true y (.int .i64 (n : Int)) := by exact Opd.pl rfl) :
    HO P N w0 Q ⟨some d, .makeSlice t x y, ty, pos, af, none⟩ Kn F K := ho_make z hz hpos hN hx hy hb hr
theorem hm {α : Type} [Flat α] {n bytes : Nat} {zs : List Value} [T : TSlc P t e] [M : TMk P e zs bytes] (z : α) (hr : ∀ v', v'.oneCell' = true → HL P N w0 ops Q rest ((d, .pl v') :: F) (ownF e v' (List.replicate n z) :: K)) (hb : bytes * n ≤ 281474976710656 ∧ n ≤ maxLen) (hz : Flat.f z = zs := by rfl) (hpos : 0 < Flat.k α := by decide) (hN : d < N := by decide) (hx : Opd N F true x (.int .i64 (n : Int)) := by exact Opd.pl rfl) (hy : Opd N F true y (.int .i64 (n : Int)) := by exact Opd.pl rfl) :
    HL P N w0 ops Q (⟨some d, .makeSlice t x y, ty, pos, af, none⟩ :: rest) F K := hl_o rfl (ho_make z hz hpos hN hx hy hb hr)
/-- A store into a typed row: the element at k is a' afterwards. -/
theorem ot {α : Type} [Flat α] {vs : List Value} {xs : List α} {a : α} {k j sz m : Nat} [T : TSize P t m] (a' : α) (hr : At N w0 Kn F (ownF e v (xs.set k a') :: K')) (ha : xs[k]? = some a) (hx : Opd N F true x (eptr v sz k j) := by exact Opd.pl rfl) (hp : Pick K (ownF e v xs) K' := by repeat (first | exact Pick.here _ _ | apply Pick.there)) (hsz : sz = Flat.k α := by rfl) (hy : Opd N F true y u := by exact Opd.pl rfl) (hv : u.cells = vs.toArray := by first | rfl | exact one_cells (by assumption)) (hm : vs.length = m := by rfl) (h1 : ∀ u ∈ vs, u.oneCell' = true := by first | exact List.all_eq_true.1 rfl | (intro u hu; simp only [List.mem_cons, List.mem_nil_iff, or_false] at hu; (repeat' (rcases hu with rfl | hu)) <;> first | rfl | assumption | (subst hu; first | rfl | assumption)))
    (hs : SetN (Flat.f a) j vs (Flat.f a') := by repeat (first | exact SetN.nil _ | apply SetN.here | apply SetN.there)) : HO P N w0 Q ⟨none, .store t x y, ty, pos, af, none⟩ Kn F K := ho_set hx hsz hp hy hv hm h1 ha hs hr
theorem ht {α : Type} [Flat α] {vs : List Value} {xs : List α} {a : α} {k j sz m : Nat} [T : TSize P t m] (a' : α) (hr : HL P N w0 ops Q rest F (ownF e v (xs.set k a') :: K')) (ha : xs[k]? = some a) (hx : Opd N F true x (eptr v sz k j) := by exact Opd.pl rfl) (hp : Pick K (ownF e v xs) K' := by repeat (first | exact Pick.here _ _ | apply Pick.there)) (hsz : sz = Flat.k α := by rfl) (hy : Opd N F true y u := by exact Opd.pl rfl) (hv : u.cells = vs.toArray := by first | rfl | exact one_cells (by assumption)) (hm : vs.length = m := by rfl) (h1 : ∀ u ∈ vs, u.oneCell' = true := by first | exact List.all_eq_true.1 rfl | (intro u hu; simp only [List.mem_cons, List.mem_nil_iff, or_false] at hu; (repeat' (rcases hu with rfl | hu)) <;> first | rfl | assumption | (subst hu; first | rfl | assumption)))
    (hs : SetN (Flat.f a) j vs (Flat.f a') := by repeat (first | exact SetN.nil _ | apply SetN.here | apply SetN.there)) : HL P N w0 ops Q (⟨none, .store t x y, ty, pos, af, none⟩ :: rest) F K := hl_o rfl (ho_set hx hsz hp hy hv hm h1 ha hs hr)
/-- .. and the row is named anew. -/
theorem hts {α : Type} [Flat α] {vs : List Value} {xs : List α} {a : α} {k j sz m : Nat} [T : TSize P t m] (a' : α) (hr : ∀ R : List α, R = xs.set k a' → R.length = xs.length → R[k]? = some a' → HL P N w0 ops Q rest F (ownF e v R :: K')) (ha : xs[k]? = some a) (hx : Opd N F true x (eptr v sz k j) := by exact Opd.pl rfl) (hp : Pick K (ownF e v xs) K' := by repeat (first | exact Pick.here _ _ | apply Pick.there)) (hsz : sz = Flat.k α := by rfl) (hy : Opd N F true y u := by exact Opd.pl rfl) (hv : u.cells = vs.toArray := by first | rfl | exact one_cells (by assumption)) (hm : vs.length = m := by rfl) (h1 : ∀ u ∈ vs, u.oneCell' = true := by first | exact List.all_eq_true.1 rfl | (intro u hu; simp only [List.mem_cons, List.mem_nil_iff, or_false] at hu; (repeat' (rcases hu with rfl | hu)) <;> first | rfl | assumption | (subst hu; first | rfl | assumption)))
    (hs : SetN (Flat.f a) j vs (Flat.f a') := by repeat (first | exact SetN.nil _ | apply SetN.here | apply SetN.there)) : HL P N w0 ops Q (⟨none, .store t x y, ty, pos, af, none⟩ :: rest) F K := hl_o rfl (ho_set hx hsz hp hy hv hm h1 ha hs (hr _ rfl (by simp) (by simp [(List.getElem?_eq_some_iff.1 ha).1])))
theorem ho_bs0 {α : Type} [Flat α] {bytes : Nat} {zs : List Value} [T : TSlc P t e] [M : TMk P e zs bytes] (hN : d < N) (hr : ∀ v', v'.oneCell' = true → At N w0 Kn ((d, .pl v') :: F) (ownF e v' ([] : List α) :: K)) :
    HO P N w0 Q ⟨some d, .buildSlice t 0 #[], ty, pos, af, none⟩ Kn F K :=
  ho_bslice (sz := Flat.k α) (vs := []) (cs := []) hN (fun _ _ => by simp) (fun w => ⟨_, run_bs0 (M := M) w, rfl⟩) (by simp) (by simp [maxLen]) hr
theorem ho_bs1 {α : Type} [Flat α] {bytes : Nat} {zs vs : List Value} [T : TSlc P t e] [M : TMk P e zs bytes] (a : α) (hN : d < N) (hx : Opd N F true x v) (hv : v.cells = vs.toArray) (ha : Flat.f a = vs) (hl : vs.length = zs.length) (hpos : 0 < zs.length) (hsm : zs.length ≤ 2 ^ 24)
    (hr : ∀ v', v'.oneCell' = true → At N w0 Kn ((d, .pl v') :: F) (ownF e v' [a] :: K)) :
    HO P N w0 Q ⟨some d, .buildSlice t 1 #[(0, x)], ty, pos, af, none⟩ Kn F K := by
  subst ha
  refine ho_bslice (sz := Flat.k α) (vs := [(0, v)]) (cs := Flat.f a) hN (fun a ha => by simp [hx a ha rfl]) (fun w => ⟨_, run_bs1 v _ hv hl hpos hsm w, rfl⟩) (by simp [Flat.len]) (by simp [maxLen]) (fun v' h => ?_)
  have := hr v' h
  simpa [ownF, cells] using this
/-- A typed append. -/
theorem ho_app {α : Type} [Flat α] {xs ys : List α} {sz bytes : Nat} [T : TSlc P t e] [R : TRow P e sz bytes] (hsz : sz = Flat.k α) (hN : d < N) (hx : Opd N F true x v) (hy : Opd N F true y u)
    (hp : Pick K (ownF e v xs) K') (hs : Src w0 K' (Flat.k α) u ys.length (cells ys)) (hb : (xs.length + ys.length) * bytes ≤ 140737488355328 ∧ xs.length + ys.length ≤ maxLen)
    (hr : ∀ v', v'.oneCell' = true → At N w0 Kn ((d, .pl v') :: F) (ownF e v' (xs ++ ys) :: K')) :
    HO P N w0 Q ⟨some d, .call { callee := .builtin .append, args := #[x, y], argTypes := #[t, t] }, ty, pos, af, none⟩ Kn F K := by
  subst hsz
  refine ho_append (t' := t) (bytes := bytes) hN hx hy hp hs (cells_one ys) hb (fun v' h => ?_)
  have := hr v' h
  unfold ownF at this
  rw [cells_append, List.length_append] at this
  exact this
theorem Src.ownF {α : Type} [Flat α] {v : Value} {xs : List α} {e : TypeId} (h : E.ownF e v xs ∈ K) : Src w0 K (Flat.k α) v xs.length (cells xs) := Src.own h
theorem Src.rdF {α : Type} [Flat α] {v : Value} {xs : List α} (h : RdF w0 v xs) : Src w0 K (Flat.k α) v xs.length (cells xs) := Src.rd h
theorem hbs0 {bytes : Nat} {zs : List Value} [T : TSlc P t e] [M : TMk P e zs bytes] (α : Type) [Flat α] (hr : ∀ v', v'.oneCell' = true → HL P N w0 ops Q rest ((d, .pl v') :: F) (ownF e v' ([] : List α) :: K)) (hN : d < N := by decide) :
    HL P N w0 ops Q (⟨some d, .buildSlice t 0 #[], ty, pos, af, none⟩ :: rest) F K := hl_o rfl (ho_bs0 (M := M) hN hr)
theorem hbs1 {α : Type} [Flat α] {bytes : Nat} {zs vs : List Value} [T : TSlc P t e] [M : TMk P e zs bytes] (a : α) (hr : ∀ v', v'.oneCell' = true → HL P N w0 ops Q rest ((d, .pl v') :: F) (ownF e v' [a] :: K)) (hN : d < N := by decide) (hx : Opd N F true x v := by exact Opd.pl rfl) (hv : v.cells = vs.toArray := by first | rfl | exact one_cells (by assumption)) (ha : Flat.f a = vs := by rfl) (hl : vs.length = zs.length := by rfl) (hpos : 0 < zs.length := by decide) (hsm : zs.length ≤ 2 ^ 24 := by decide) :
    HL P N w0 ops Q (⟨some d, .buildSlice t 1 #[(0, x)], ty, pos, af, none⟩ :: rest) F K := hl_o rfl (ho_bs1 a hN hx hv ha hl hpos hsm hr)
theorem hap {α : Type} [Flat α] {xs ys : List α} {sz bytes : Nat} [T : TSlc P t e] [R : TRow P e sz bytes] (hr : ∀ v', v'.oneCell' = true → HL P N w0 ops Q rest ((d, .pl v') :: F) (ownF e v' (xs ++ ys) :: K')) (hb : (xs.length + ys.length) * bytes ≤ 140737488355328 ∧ xs.length + ys.length ≤ maxLen) (hN : d < N := by decide) (hx : Opd N F true x v := by exact Opd.pl rfl) (hy : Opd N F true y u := by exact Opd.pl rfl) (hp : Pick K (ownF e v xs) K' := by repeat (first | exact Pick.here _ _ | apply Pick.there)) (hs : Src w0 K' (Flat.k α) u ys.length (cells ys) := by first | exact Src.rdF (by assumption) | exact Src.ownF (by repeat (first | exact List.Mem.head _ | apply List.Mem.tail))) (hsz : sz = Flat.k α := by rfl) :
    HL P N w0 ops Q (⟨some d, .call { callee := .builtin .append, args := #[x, y], argTypes := #[t, t] }, ty, pos, af, none⟩ :: rest) F K := hl_o rfl (ho_app hsz hN hx hy hp hs hb hr)
theorem hc_addnil {cd : Code} (α : Type) [Flat α] (e : TypeId) (h : HC P N w0 cd Q F (ownF e (.slice none 0 0) ([] : List α) :: K)) : HC P N w0 cd Q F K := fun a w ha hw => h a w ha (hw.addnil e (Flat.k α))
theorem ok {α : Type} {val : α → Value} {Kr : α → List Ck} {f : FuncId} [T : FnOk P f] {xs : Array Operand} {ts : Array TypeId} {vs : List Value} (hcall : ∀ w, KOk w0 K w → Calls P f vs.toArray w (RetK val Kr w0)) (hr : ∀ z, At N w0 Kn ((d, .pl (val z)) :: F) (Kr z)) (hN : d < N := by decide) (hx : Opds N F true xs.toList vs := by repeat (first | exact Opds.nil | refine Opds.cons (by first | exact Opd.pl rfl | exact Opd.gd rfl (fun h => h) | exact Opd.gd rfl (by simp; done)) ?_)) :
    HO P N w0 Q ⟨some d, .call { callee := .value (.func f), args := xs, argTypes := ts }, ty, pos, af, none⟩ Kn F K := by
  obtain ⟨fn, hf, hb, hn⟩ := T.ok
  exact ho_callK hf hb hn hN hx hcall hr
theorem hk {α : Type} {val : α → Value} {Kr : α → List Ck} {f : FuncId} [T : FnOk P f] {xs : Array Operand} {ts : Array TypeId} {vs : List Value} (hcall : ∀ w, KOk w0 K w → Calls P f vs.toArray w (RetK val Kr w0)) (hr : ∀ z, HL P N w0 ops Q rest ((d, .pl (val z)) :: F) (Kr z)) (hN : d < N := by decide) (hx : Opds N F true xs.toList vs := by repeat (first | exact Opds.nil | refine Opds.cons (by first | exact Opd.pl rfl | exact Opd.gd rfl (fun h => h) | exact Opd.gd rfl (by simp; done)) ?_)) :
    HL P N w0 ops Q (⟨some d, .call { callee := .value (.func f), args := xs, argTypes := ts }, ty, pos, af, none⟩ :: rest) F K := hl_o rfl (ok hcall hr hN hx)
theorem KSub.refl : ∀ K : List Ck, KSub K K
  | [] => .nil _
  | k :: K => .pick (.here k K) (KSub.refl K)
theorem RetK.mk {α : Type} {val : α → Value} {Kr : α → List Ck} {w' : World} {v : Value} (x : α) (hv : v = val x) (hw : KOk w0 K w') (hs : KSub K (Kr x)) : RetK val Kr w0 (.returned v) w' := ⟨x, by rw [hv], hw.sub hs⟩
/-- One result, with the caller's chunks. -/
theorem ret1K {fn : Func} {α : Type} {val : α → Value} {Kr : α → List Ck} (x : α) (hv : v = val x := by rfl) (hK : KSub K (Kr x) := by repeat (first | exact KSub.nil _ | refine KSub.pick (by repeat (first | exact Pick.here _ _ | apply Pick.there)) ?_)) (h : RV P N w0 F K fn.results.toList [v] := by repeat (first | exact RV.nil | refine RV.tmp rfl ?_ | refine RV.cellC rfl (LdC.box (by repeat (first | exact List.Mem.head _ | apply List.Mem.tail)) (by repeat (first | exact SubC.nil _ | apply SubC.here | apply SubC.there))) ?_)) : At N w0 (bodyPost P fn (RetK val Kr w0) .ret) F K :=
  at_ret1 h (fun w hw => RetK.mk x hv hw hK)
end
end E
end Go.Proofs.YtpiiapoafmnhhaaGreat
