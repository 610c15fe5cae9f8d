/- The engine, second edition, second part: arrays of whole numbers in boxes. -/
import Derived.Test.YtjdagbicjhmeeaaG
namespace Go.Proofs.Ytjdagbicjhmeeaa
namespace E
set_option linter.unusedSimpArgs false
set_option linter.unusedVariables false
open Go Go.RowKit
section
variable {P : Program} {N : Nat} {w0 : World} {K K' Kp : List Ck} {F F' : List (Nat × En)} {c : Bool} {Q : Exit → Act → World → Prop} {ops : Array Oper} {rest : List Oper} {d : Nat} {dd : Option Tmp} {ty : TypeId} {pos : String} {af : Array Edge} {gd : Option (Nat × Bool)}
variable {x y ix : Operand} {t t' : TypeId} {u v : Value} {o : Oper} {Kn : Act → World → Prop} {m m' : Md} {e : En} {gk : Bool}
/-- The cells of whole numbers. -/
def ics (ms : List Int) : List Value := ms.map (Value.int .i64)
theorem ics_get {ms : List Int} {k : Nat} {i : Int} (h : ms[k]? = some i) : (ics ms)[k]? = some (.int .i64 i) := by simp [ics, h]
theorem ics_set (ms : List Int) (k : Nat) (i : Int) : (ics ms).set k (.int .i64 i) = ics (ms.set k i) := by simp [ics]
theorem ics_length (ms : List Int) : (ics ms).length = ms.length := by simp [ics]
/-- The address of an array's element. -/
theorem a_idxA {n sz k g : Nat} {kd : IntKind} {i : Int} {el : TypeId} [T : TArr P t n el] [S : TSize P el sz] (h : Opd N F c x (.pointer (some ⟨g, 0, none⟩)) := by first | exact Opd.pl rfl | exact Opd.gd rfl (fun h => h)) (hi : Opd N F c ix (.int kd i) := by first | exact Opd.pl rfl | exact Opd.gd rfl (fun h => h)) (hk : c = true → i = (k : Int) ∧ k < n := by first | exact (fun _ => ⟨rfl, by omega⟩) | exact (fun _ => ⟨(Int.toNat_of_nonneg (by omega)).symm, by omega⟩) | exact (fun hcc => ⟨(Int.toNat_of_nonneg (by first | omega | (simp only [Bool.and_eq_true, Bool.or_eq_true, Bool.not_eq_true', decide_eq_true_eq, decide_eq_false_iff_not] at hcc; omega))).symm, by first | omega | (simp only [Bool.and_eq_true, Bool.or_eq_true, Bool.not_eq_true', decide_eq_true_eq, decide_eq_false_iff_not] at hcc; omega)⟩)) :
    YV P N w0 K F c ⟨dd, .indexAddr t x ix, ty, pos, af, gd⟩ (.pointer (some ⟨g, k * sz, none⟩)) := fun a w ha hc hw => by
  obtain ⟨rfl, hlt⟩ := hk hc
  have e : Addr.add ⟨g, 0, none⟩ (k * sz) = ⟨g, k * sz, none⟩ := by unfold Addr.add; split <;> simp_all
  simp [execOp, h a ha hc, hi a ha hc, Instr.indexAt, Instr.sureAddr, asIntOf, run_underlying T.is, S.size, hlt, e]
theorem Ld.ics {g k : Nat} {ms : List Int} {i : Int} (hm : .box g t (E.ics ms) ∈ K) (h : c = true → ms[k]? = some i) : Ld w0 K c (.pointer (some ⟨g, k * 1, none⟩)) [.int .i64 i] := fun hc =>
  Ld.box (c := c) hm (fun j u hu => by
    cases j with
    | zero => simp only [List.getElem?_cons_zero, Option.some.injEq] at hu; subst hu; simpa using ics_get (h hc)
    | succ j => simp at hu) hc
theorem a_loadI {g k : Nat} {ms : List Int} {i : Int} {t0 : TypeId} [T : TOne P t] (h : Opd N F c x (.pointer (some ⟨g, k * 1, none⟩)) := by first | exact Opd.pl rfl | exact Opd.gd rfl (fun h => h)) (hm : .box g t0 (E.ics ms) ∈ K := by exact mm) (hk : c = true → ms[k]? = some i := by first | assumption | exact (fun _ => by assumption)) :
    YV P N w0 K F c ⟨dd, .load t x, ty, pos, af, gd⟩ (.int .i64 i) := y_load h (Ld.ics hm hk)
theorem ho_si {g k : Nat} {ms : List Int} {i : Int} {t0 : TypeId} [T : TSize P t 1] (hx : Opd N F true x (.pointer (some ⟨g, k * 1, none⟩))) (hp : Pick K (.box g t0 (ics ms)) K') (hy : Opd N F true y (.int .i64 i)) (hk : k < ms.length) (hr : At N w0 Kn F (.box g t0 (ics (ms.set k i)) :: K')) :
    HO P N w0 Q ⟨none, .store t x y, ty, pos, af, none⟩ Kn F K := fun a w ha hw => by
  have hw' := hw.pick hp
  have hlen : (ics ms).length = ms.length := ics_length ms
  obtain ⟨w1, hrun, hg, hh, hz⟩ := run_storeCells (P := P) [.int .i64 i] w (ics ms) ⟨g, k * 1, none⟩ k 0 rfl rfl (hw'.holds _ List.mem_cons_self).2 (by simp; omega) (by simp [Value.oneCell']) (by simp)
  simp only [setAt] at hh
  rw [ics_set] at hh
  refine ho_skip w1 ?_ (hr _ _ (ha.put_none _) (hw'.turn_box hg hh))
  simp [execOp, hx a ha rfl, hy a ha rfl, Instr.storeAt, Instr.sureAddr, storeVar, Value.cells, T.size] at hrun ⊢
  rw [hrun]; rfl
/-- A store into an array of whole numbers. -/
theorem si {g k : Nat} {ms : List Int} {i : Int} {t0 : TypeId} [T : TSize P t 1] (hr : HG P N w0 ops Q m' rest F (.box g t0 (ics (ms.set k i)) :: K')) (hx : Opd N F true x (.pointer (some ⟨g, k * 1, none⟩)) := by exact Opd.pl rfl) (hp : Pick K (.box g t0 (ics ms)) K' := by exact pk) (hy : Opd N F true y (.int .i64 i) := by exact Opd.pl rfl) (hk : k < ms.length := by omega) (hX : NX m m' := by first | exact NX.l | exact NX.q | exact NX.x _ _ _ _ | exact NX.y _ _ _ _) (hA : KA ops m := by first | exact KA.l | exact KA.y | exact KA.x (by decide +kernel)) (hB : ∀ (_ : Unit), KB ops m (.box g t0 (ics (ms.set k i)) :: K') := by first | exact fun _ => KB.l | exact fun _ => KB.x (Or.inr ks) | exact fun _ => KB.x (Or.inl (by decide +kernel)) | exact fun _ => KB.y (Or.inr ks) | exact fun _ => KB.y (Or.inl (by decide +kernel))) :
    HG P N w0 ops Q m (⟨none, .store t x y, ty, pos, af, none⟩ :: rest) F K := hgo (Fi := fun _ : Unit => F) (Ki := fun _ => .box g t0 (ics (ms.set k i)) :: K') hA hB hX rfl (fun _ => hr) (fun Q' Kn hk' => ho_si hx hp hy hk (hk' ()))
/-- The box of zeros that an array begins as. -/
theorem alI {zs : List Value} [T : TZero P t zs] (ms : List Int) (hr : ∀ g, HG P N w0 ops Q .l rest ((d, .pl (.pointer (some ⟨g, 0, none⟩))) :: F) (.box g t (ics ms) :: K)) (hz : zs = ics ms := by rfl) (hN : d < N := by decide) : HG P N w0 ops Q .l (⟨some d, .alloc t, ty, pos, af, none⟩ :: rest) F K := by
  subst hz
  exact al hr hN
/-- Where a value is told otherwise. -/
theorem y_eqI {Kq : List Ck} {k : IntKind} {i j : Int} (h : YV P N w0 Kq F c o (.int k i)) (e : i = j) : YV P N w0 Kq F c o (.int k j) := by subst e; exact h
theorem y_eqB {Kq : List Ck} {i j : Bool} (h : YV P N w0 Kq F c o (.bool i)) (e : i = j) : YV P N w0 Kq F c o (.bool j) := by subst e; exact h
theorem a_shr {k k' : IntKind} {i j : Int} (hx : Opd N F c x (.int k i) := by first | exact Opd.pl rfl | exact Opd.gd rfl (fun h => h)) (hy : Opd N F c y (.int k' j) := by first | exact Opd.pl rfl | exact Opd.gd rfl (fun h => h)) (hj : 0 ≤ j := by first | decide | omega) : YV P N w0 K F c ⟨dd, .binOp .shr t x y t', ty, pos, af, gd⟩ (.int k (i.fdiv (2 ^ (min j.toNat k.bits)))) := fun a w ha hc _ => by
  have : ¬ j < 0 := by omega
  simp [execOp, hx a ha hc, hy a ha hc, eqGuard_int, binOp, Op.shift, this]
/-! ### Slices that are written out -/
/-- The parts of a slice, from number k on, and the data that they are. -/
inductive Pts (N : Nat) (F : List (Nat × En)) (α : Type) [Flat α] : Nat → List (Nat × Operand) → List (Nat × Value) → List α → Prop where
  | nil (k : Nat) : Pts N F α k [] [] []
  | cons {k : Nat} {x : Operand} {v : Value} {vs : List Value} {a : α} {ps : List (Nat × Operand)} {us : List (Nat × Value)} {as : List α} (hx : Opd N F true x v) (hv : v.cells = vs.toArray) (hM : MkI α vs a) (h : Pts N F α (k + 1) ps us as) : Pts N F α k ((k, x) :: ps) ((k, v) :: us) (a :: as)
theorem Pts.eval {α : Type} [Flat α] {k : Nat} {ps : List (Nat × Operand)} {us : List (Nat × Value)} {as : List α} (h : Pts N F α k ps us as) {a : Act} (ha : FrOk N F a) : ps.map (fun (p : Nat × Operand) => (p.1, a.eval p.2)) = us := by
  induction h with
  | nil k => rfl
  | cons hx _ _ _ ih => simp [hx a ha rfl, ih]
theorem Pts.fill {α : Type} [Flat α] {zs : List Value} (hz : zs.length = Flat.k α) {k : Nat} {ps : List (Nat × Operand)} {us : List (Nat × Value)} {as : List α} (h : Pts N F α k ps us as) : ∀ pre : List α, pre.length = k → Instr.fill (fun i => some (i * zs.length, zs.length)) (cells pre ++ (List.replicate as.length zs).flatten).toArray us = some (cells (pre ++ as)).toArray := by
  induction h with
  | nil k => intro pre _; simp [Instr.fill]
  | @cons k x v vs a ps us as hx hv hM h ih =>
    intro pre hk
    have hvs : vs.length = zs.length := by rw [← hM.eq, Flat.len, hz]
    have hc : (cells pre).length = k * zs.length := by rw [cells_length, hk, hz]
    simp only [Instr.fill, hv]
    have e : (vs.toArray.size ≠ zs.length || k * zs.length + vs.toArray.size > (cells pre ++ (List.replicate (as.length + 1) zs).flatten).toArray.size) = false := by
      simp [hvs, hc, List.replicate_succ]
    rw [List.length_cons, if_neg (by rw [e]; simp), fold_setAt]
    have h1 : setAt (cells pre ++ (List.replicate (as.length + 1) zs).flatten) (k * zs.length) vs = cells (pre ++ [a]) ++ (List.replicate as.length zs).flatten := by
      rw [← hc, List.replicate_succ, List.flatten_cons]
      have := setAt_append_right vs (cells pre) (zs ++ (List.replicate as.length zs).flatten) 0
      rw [Nat.add_zero] at this
      rw [this, setAt_append_left _ _ _ _ (by omega), setAt_full _ _ hvs, cells_append, List.append_assoc]
      simp [cells, hM.eq]
    rw [h1]
    have := ih (pre ++ [a]) (by simp [hk])
    rw [List.append_assoc] at this
    simpa using this
theorem run_bsN {α : Type} [Flat α] {bytes len : Nat} {zs : List Value} {el : TypeId} [T : TSlc P t el] [M : TMk P el zs bytes] (hz : zs.length = Flat.k α) (hpos : 0 < zs.length) {ps : List (Nat × Operand)} {us : List (Nat × Value)} {as : List α} (h : Pts N F α 0 ps us as) (hlen : as.length = len) (hl0 : 0 < len) (hsm : len * zs.length ≤ 2 ^ 24) (w : World) :
    (Instr.buildSlice t len us.toArray).run P w = .ok (.slice (some ⟨w.heap.size, 0, none⟩) len len) (w.alloc (.cells (cells as).toArray el)) := by
  obtain ⟨i, zz, h1, h2, h3, h4, h5⟩ := M.row
  subst hlen
  have h6 : ((Array.range (as.length * zs.length)).map (zs.toArray[· % zs.toArray.size]!)) = ((List.replicate as.length zs).flatten).toArray := madeCells_rep hpos as.length
  have hf := h.fill hz [] rfl
  simp only [cells, List.flatMap_nil, List.nil_append] at hf
  have hne : ¬ (as.length * zs.length = 0) := by
    have := Nat.mul_pos hl0 hpos
    omega
  exact run_buildSlice w t el as.length us.toArray _ i zz T.is h1 h2 (by rw [h3]; omega) (by rw [h3]; exact hne) (by rw [h3, h5, h6]; simpa [cells] using hf)
/-- A slice that is written out, of one element or more. -/
theorem bsn {α : Type} [Flat α] {el : TypeId} {bytes len : Nat} {zs : List Value} {ps : List (Nat × Operand)} {us : List (Nat × Value)} {as : List α} [T : TSlc P t el] [M : TMk P el zs bytes] [ElT P el α] (hr : ∀ v', v'.oneCell' = true → HG P N w0 ops Q m' rest ((d, .pl v') :: F) (ownF el v' as :: K)) (hN : d < N := by decide) (h : Pts N F α 0 ps us as := by (repeat (first | exact Pts.nil _ | (apply Pts.cons; exact Opd.pl rfl; (first | rfl | exact one_cells (by assumption)); exact inferInstance))); first | done | fail) (hz : zs.length = Flat.k α := by rfl) (hpos : 0 < zs.length := by decide) (hlen : as.length = len := by rfl) (hl0 : 0 < len := by decide) (hsm : len * zs.length ≤ 2 ^ 24 := by decide) (hX : NX m m' := by first | exact NX.l | exact NX.q | exact NX.x _ _ _ _ | exact NX.y _ _ _ _) (hA : KA ops m := by first | exact KA.l | exact KA.y | exact KA.x (by decide +kernel)) (hB : ∀ (z : { v' : Value // v'.oneCell' = true }), KB ops m (ownF el z.1 as :: K) := by first | exact fun _ => KB.l | exact fun _ => KB.x (Or.inr ks) | exact fun _ => KB.x (Or.inl (by decide +kernel)) | exact fun _ => KB.y (Or.inr ks) | exact fun _ => KB.y (Or.inl (by decide +kernel))) :
    HG P N w0 ops Q m (⟨some d, .buildSlice t len ps.toArray, ty, pos, af, none⟩ :: rest) F K := hgo (Fi := fun z => (d, .pl z.1) :: F) (Ki := fun z : { v' : Value // v'.oneCell' = true } => ownF el z.1 as :: K) hA hB hX rfl (fun z => hr z.1 z.2) (fun Q' Kn hk => by
  have hc : (cells as).length = len * Flat.k α := by rw [cells_length, hlen]
  refine ho_bslice (sz := Flat.k α) (vs := us) (cs := cells as) hN (fun a ha => ?_) (fun w => ⟨_, run_bsN (M := M) hz hpos h hlen hl0 hsm w, rfl⟩) hc ?_ (fun v' hv' => ?_)
  · have := h.eval ha
    apply Array.ext'
    simpa using this
  · have : len * zs.length ≤ 2 ^ 24 := hsm
    have h1 : len ≤ len * zs.length := Nat.le_mul_of_pos_right _ hpos
    simp only [maxLen]
    omega
  · have := hk ⟨v', hv'⟩
    simpa [ownF, hlen] using this)
end
end E
end Go.Proofs.Ytjdagbicjhmeeaa
