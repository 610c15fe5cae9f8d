/- The engine, second edition, second part: arrays of whole numbers in boxes. -/
import Derived.Test.YtpiiapoafmnhhaaGreatG
namespace Go.Proofs.YtpiiapoafmnhhaaGreat
namespace E
set_option linter.unusedSimpArgs false
set_option linter.unusedVariables false
open Go Go.RowKit
section
variable {P : Program} {N : Nat} {w0 : World} {K K' Kp : List Ck} {F F' : List (Nat × En)} {c : Bool} {Q : Exit → Act → World → Prop} {ops : Array Oper} {rest : List Oper} {d : Nat} {dd : Option Tmp} {ty : TypeId} {pos : String} {af : Array Edge} {gd : Option (Nat × Bool)}
variable {x y ix : Operand} {t t' : TypeId} {u v : Value} {o : Oper} {Kn : Act → World → Prop} {m m' : Md} {e : En} {gk : Bool}
/-- The cells of whole numbers. -/
def ics (ms : List Int) : List Value := ms.map (Value.int .i64)
theorem ics_get {ms : List Int} {k : Nat} {i : Int} (h : ms[k]? = some i) : (ics ms)[k]? = some (.int .i64 i) := by simp [ics, h]
theorem ics_set (ms : List Int) (k : Nat) (i : Int) : (ics ms).set k (.int .i64 i) = ics (ms.set k i) := by simp [ics]
theorem ics_length (ms : List Int) : (ics ms).length = ms.length := by simp [ics]
/-- The address of an array's element. -/
theorem a_idxA {n sz k g : Nat} {kd : IntKind} {i : Int} {el : TypeId} [T : TArr P t n el] [S : TSize P el sz] (h : Opd N F c x (.pointer (some ⟨g, 0, none⟩)) := by first | exact Opd.pl rfl | exact Opd.gd rfl (fun h => h)) (hi : Opd N F c ix (.int kd i) := by first | exact Opd.pl rfl | exact Opd.gd rfl (fun h => h)) (hk : c = true → i = (k : Int) ∧ k < n := by first | exact (fun _ => ⟨rfl, by omega⟩) | exact (fun _ => ⟨(Int.toNat_of_nonneg (by omega)).symm, by omega⟩) | exact (fun hcc => ⟨(Int.toNat_of_nonneg (by first | omega | (simp only [Bool.and_eq_true, Bool.or_eq_true, Bool.not_eq_true', decide_eq_true_eq, decide_eq_false_iff_not] at hcc; omega))).symm, by first | omega | (simp only [Bool.and_eq_true, Bool.or_eq_true, Bool.not_eq_true', decide_eq_true_eq, decide_eq_false_iff_not] at hcc; omega)⟩)) :
    YV P N w0 K F c ⟨dd, .indexAddr t x ix, ty, pos, af, gd⟩ (.pointer (some ⟨g, k * sz, none⟩)) := fun a w ha hc hw => by
  obtain ⟨rfl, hlt⟩ := hk hc
  have e : Addr.add ⟨g, 0, none⟩ (k * sz) = ⟨g, k * sz, none⟩ := by unfold Addr.add; split <;> simp_all
  simp [execOp, h a ha hc, hi a ha hc, Instr.indexAt, Instr.sureAddr, asIntOf, run_underlying T.is, S.size, hlt, e]
theorem Ld.ics {g k : Nat} {ms : List Int} {i : Int} (hm : .box g t (E.ics ms) ∈ K) (h : c = true → ms[k]? = some i) : Ld w0 K c (.pointer (some ⟨g, k * 1, none⟩)) [.int .i64 i] := fun hc =>
  Ld.box (c := c) hm (fun j u hu => by
    cases j with
    | zero => simp only [List.getElem?_cons_zero, Option.some.injEq] at hu; subst hu; simpa using ics_get (h hc)
    | succ j => simp at hu) hc
theorem a_loadI {g k : Nat} {ms : List Int} {i : Int} {t0 : TypeId} [T : TOne P t] (h : Opd N F c x (.pointer (some ⟨g, k * 1, none⟩)) := by first | exact Opd.pl rfl | exact Opd.gd rfl (fun h => h)) (hm : .box g t0 (E.ics ms) ∈ K := by exact mm) (hk : c = true → ms[k]? = some i := by first | assumption | exact (fun _ => by assumption)) :
    YV P N w0 K F c ⟨dd, .load t x, ty, pos, af, gd⟩ (.int .i64 i) := y_load h (Ld.ics hm hk)
theorem ho_si {g k : Nat} {ms : List Int} {i : Int} {t0 : TypeId} [T : TSize P t 1] (hx : Opd N F true x (.pointer (some ⟨g, k * 1, none⟩))) (hp : Pick K (.box g t0 (ics ms)) K') (hy : Opd N F true y (.int .i64 i)) (hk : k < ms.length) (hr : At N w0 Kn F (.box g t0 (ics (ms.set k i)) :: K')) :
    HO P N w0 Q ⟨none, .store t x y, ty, pos, af, none⟩ Kn F K := fun a w ha hw => by
  have hw' := hw.pick hp
  have hlen : (ics ms).length = ms.length := ics_length ms
  obtain ⟨w1, hrun, hg, hh, hz⟩ := run_storeCells (P := P) [.int .i64 i] w (ics ms) ⟨g, k * 1, none⟩ k 0 rfl rfl (hw'.holds _ List.mem_cons_self).2 (by simp; omega) (by simp [Value.oneCell']) (by simp)
  simp only [setAt] at hh
  rw [ics_set] at hh
  refine ho_skip w1 ?_ (hr _ _ (ha.put_none _) (hw'.turn_box hg hh))
  simp [execOp, hx a ha rfl, hy a ha rfl, Instr.storeAt, Instr.sureAddr, storeVar, Value.cells, T.size] at hrun ⊢
  rw [hrun]; rfl
/-- A store into an array of whole numbers. -/
theorem si {g k : Nat} {ms : List Int} {i : Int} {t0 : TypeId} [T : TSize P t 1] (hr : HG P N w0 ops Q m' rest F (.box g t0 (ics (ms.set k i)) :: K')) (hx : Opd N F true x (.pointer (some ⟨g, k * 1, none⟩)) := by exact Opd.pl rfl) (hp : Pick K (.box g t0 (ics ms)) K' := by exact pk) (hy : Opd N F true y (.int .i64 i) := by exact Opd.pl rfl) (hk : k < ms.length := by omega) (hX : NX m m' := by first | exact NX.l | exact NX.q | exact NX.x _ _ _ _ | exact NX.y _ _ _ _) (hA : KA ops m := by first | exact KA.l | exact KA.y | exact KA.x (by decide +kernel)) (hB : ∀ (_ : Unit), KB ops m (.box g t0 (ics (ms.set k i)) :: K') := by first | exact fun _ => KB.l | exact fun _ => KB.x (Or.inr ks) | exact fun _ => KB.x (Or.inl (by decide +kernel)) | exact fun _ => KB.y (Or.inr ks) | exact fun _ => KB.y (Or.inl (by decide +kernel))) :
    HG P N w0 ops Q m (⟨none, .store t x y, ty, pos, af, none⟩ :: rest) F K := hgo (Fi := fun _ : Unit => F) (Ki := fun _ => .box g t0 (ics (ms.set k i)) :: K') hA hB hX rfl (fun _ => hr) (fun Q' Kn hk' => ho_si hx hp hy hk (hk' ()))
/-- The box of zeros that an array begins as. -/
theorem alI {zs : List Value} [T : TZero P t zs] (ms : List Int) (hr : ∀ g, HG P N w0 ops Q .l rest ((d, .pl (.pointer (some ⟨g, 0, none⟩))) :: F) (.box g t (ics ms) :: K)) (hz : zs = ics ms := by rfl) (hN : d < N := by decide) : HG P N w0 ops Q .l (⟨some d, .alloc t, ty, pos, af, none⟩ :: rest) F K := by
  subst hz
  exact al hr hN
/-- Where a value is told otherwise. -/
theorem y_eqI {Kq : List Ck} {k : IntKind} {i j : Int} (h : YV P N w0 Kq F c o (.int k i)) (e : i = j) : YV P N w0 Kq F c o (.int k j) := by subst e; exact h
theorem a_shr {k k' : IntKind} {i j : Int} (hx : Opd N F c x (.int k i) := by first | exact Opd.pl rfl | exact Opd.gd rfl (fun h => h)) (hy : Opd N F c y (.int k' j) := by first | exact Opd.pl rfl | exact Opd.gd rfl (fun h => h)) (hj : 0 ≤ j := by first | decide | omega) : YV P N w0 K F c ⟨dd, .binOp .shr t x y t', ty, pos, af, gd⟩ (.int k (i.fdiv (2 ^ (min j.toNat k.bits)))) := fun a w ha hc _ => by
  have : ¬ j < 0 := by omega
  simp [execOp, hx a ha hc, hy a ha hc, eqGuard_int, binOp, Op.shift, this]
/-! ### Slices that are written out -/
/-- The parts of a slice, from number k on, and the data that they are. -/
inductive Pts (N : Nat) (F : List (Nat × En)) (α : Type) [Flat α] : Nat → List (Nat × Operand) → List (Nat × Value) → List α → Prop where
  | nil (k : Nat) : Pts N F α k [] [] []
  | cons {k : Nat} {x : Operand} {v : Value} {vs : List Value} {a : α} {ps : List (Nat × Operand)} {us : List (Nat × Value)} {as : List α} (hx : Opd N F true x v) (hv : v.cells = vs.toArray) (hM : MkI α vs a) (h : Pts N F α (k + 1) ps us as) : Pts N F α k ((k, x) :: ps) ((k, v) :: us) (a :: as)
theorem Pts.eval {α : Type} [Flat α] {k : Nat} {ps : List (Nat × Operand)} {us : List (Nat × Value)} {as : List α} (h : Pts N F α k ps us as) {a : Act} (ha : FrOk N F a) : ps.map (fun (p : Nat × Operand) => (p.1, a.eval p.2)) = us := by
  induction h with
  | nil k => rfl
  | cons hx _ _ _ ih => simp [hx a ha rfl, ih]
theorem Pts.fill {α : Type} [Flat α] {zs : List Value} (hz : zs.length = Flat.k α) {k : Nat} {ps : List (Nat × Operand)} {us : List (Nat × Value)} {as : List α} (h : Pts N F α k ps us as) : ∀ pre : List α, pre.length = k → Instr.fill (fun i => some (i * zs.length, zs.length)) (cells pre ++ (List.replicate as.length zs).flatten).toArray us = some (cells (pre ++ as)).toArray := by
  induction h with
  | nil k => intro pre _; simp [Instr.fill]
  | @cons k x v vs a ps us as hx hv hM h ih =>
    intro pre hk
    have hvs : vs.length = zs.length := by rw [← hM.eq, Flat.len, hz]
    have hc : (cells pre).length = k * zs.length := by rw [cells_length, hk, hz]
    simp only [Instr.fill, hv]
    have e : (vs.toArray.size ≠ zs.length || k * zs.length + vs.toArray.size > (cells pre ++ (List.replicate (as.length + 1) zs).flatten).toArray.size) = false := by
      simp [hvs, hc, List.replicate_succ]
    rw [List.length_cons, if_neg (by rw [e]; simp), fold_setAt]
    have h1 : setAt (cells pre ++ (List.replicate (as.length + 1) zs).flatten) (k * zs.length) vs = cells (pre ++ [a]) ++ (List.replicate as.length zs).flatten := by
      rw [← hc, List.replicate_succ, List.flatten_cons]
      have := setAt_append_right vs (cells pre) (zs ++ (List.replicate as.length zs).flatten) 0
      rw [Nat.add_zero] at this
      rw [this, setAt_append_left _ _ _ _ (by omega), setAt_full _ _ hvs, cells_append, List.append_assoc]
      simp [cells, hM.eq]
    rw [h1]
    have := ih (pre ++ [a]) (by simp [hk])
    rw [List.append_assoc] at this
    simpa using this
theorem run_bsN {α : Type} [Flat α] {bytes len : Nat} {zs : List Value} {el : TypeId} [T : TSlc P t el] [M : TMk P el zs bytes] (hz : zs.length = Flat.k α) (hpos : 0 < zs.length) {ps : List (Nat × Operand)} {us : List (Nat × Value)} {as : List α} (h : Pts N F α 0 ps us as) (hlen : as.length = len) (hl0 : 0 < len) (hsm : len * zs.length ≤ 2 ^ 24) (w : World) :
    (Instr.buildSlice t len us.toArray).run P w = .ok (.slice (some ⟨w.heap.size, 0, none⟩) len len) (w.alloc (.cells (cells as).toArray el)) := by
  obtain ⟨i, zz, h1, h2, h3, h4, h5⟩ := M.row
  subst hlen
  have h6 : ((Array.range (as.length * zs.length)).map (zs.toArray[· % zs.toArray.size]!)) = ((List.replicate as.length zs).flatten).toArray := madeCells_rep hpos as.length
  have hf := h.fill hz [] rfl
  simp only [cells, List.flatMap_nil, List.nil_append] at hf
  have hne : ¬ (as.length * zs.length = 0) := by
    have := Nat.mul_pos hl0 hpos
    omega
  exact run_buildSlice w t el as.length us.toArray _ i zz T.is h1 h2 (by rw [h3]; omega) (by rw [h3]; exact hne) (by rw [h3, h5, h6]; simpa [cells] using hf)
/-- A slice that is written out, of one element or more. -/
theorem bsn {α : Type} [Flat α] {el : TypeId} {bytes len : Nat} {zs : List Value} {ps : List (Nat × Operand)} {us : List (Nat × Value)} {as : List α} [T : TSlc P t el] [M : TMk P el zs bytes] [ElT P el α] (hr : ∀ v', v'.oneCell' = true → HG P N w0 ops Q m' rest ((d, .pl v') :: F) (ownF el v' as :: K)) (hN : d < N := by decide) (h : Pts N F α 0 ps us as := by (repeat (first | exact Pts.nil _ | (apply Pts.cons; exact Opd.pl rfl; (first | rfl | exact one_cells (by assumption)); exact inferInstance))); first | done | fail) (hz : zs.length = Flat.k α := by rfl) (hpos : 0 < zs.length := by decide) (hlen : as.length = len := by rfl) (hl0 : 0 < len := by decide) (hsm : len * zs.length ≤ 2 ^ 24 := by decide) (hX : NX m m' := by first | exact NX.l | exact NX.q | exact NX.x _ _ _ _ | exact NX.y _ _ _ _) (hA : KA ops m := by first | exact KA.l | exact KA.y | exact KA.x (by decide +kernel)) (hB : ∀ (z : { v' : Value // v'.oneCell' = true }), KB ops m (ownF el z.1 as :: K) := by first | exact fun _ => KB.l | exact fun _ => KB.x (Or.inr ks) | exact fun _ => KB.x (Or.inl (by decide +kernel)) | exact fun _ => KB.y (Or.inr ks) | exact fun _ => KB.y (Or.inl (by decide +kernel))) :
    HG P N w0 ops Q m (⟨some d, .buildSlice t len ps.toArray, ty, pos, af, none⟩ :: rest) F K := hgo (Fi := fun z => (d, .pl z.1) :: F) (Ki := fun z : { v' : Value // v'.oneCell' = true } => ownF el z.1 as :: K) hA hB hX rfl (fun z => hr z.1 z.2) (fun Q' Kn hk => by
  have hc : (cells as).length = len * Flat.k α := by rw [cells_length, hlen]
  refine ho_bslice (sz := Flat.k α) (vs := us) (cs := cells as) hN (fun a ha => ?_) (fun w => ⟨_, run_bsN (M := M) hz hpos h hlen hl0 hsm w, rfl⟩) hc ?_ (fun v' hv' => ?_)
  · have := h.eval ha
    apply Array.ext'
    simpa using this
  · have : len * zs.length ≤ 2 ^ 24 := hsm
    have h1 : len ≤ len * zs.length := Nat.le_mul_of_pos_right _ hpos
    simp only [maxLen]
    omega
  · have := hk ⟨v', hv'⟩
    simpa [ownF, hlen] using this)
end
end E
end Go.Proofs.YtpiiapoafmnhhaaGreat
/- The engine, second edition, third part: rows whose elements hold slices themselves; beginnings of slices. -/
namespace Go.Proofs.YtpiiapoafmnhhaaGreat
namespace E
set_option linter.unusedSimpArgs false
set_option linter.unusedVariables false
open Go Go.RowKit
/-- A slice value, as a cell. -/
structure Sv where
  a : Option Addr
  n : Nat
  c : Nat
def Sv.val (s : Sv) : Value := .slice s.a s.n s.c
/-- An own row's value is a slice. -/
theorem ownF_sv {α : Type} [Flat α] {w0 w : World} {K : List Ck} {v : Value} {e : TypeId} {xs : List α} (hm : ownF e v xs ∈ K) (hK : KOk w0 K w) : ∃ s : Sv, v = .slice s.a s.n s.c := by
  have h := hK.holds _ hm
  unfold ownF at h
  rcases h.2 with ⟨rfl, _⟩ | ⟨g, cap, cur, rfl, _⟩
  · exact ⟨⟨none, 0, 0⟩, rfl⟩
  · exact ⟨⟨_, _, _⟩, rfl⟩
theorem calls_sv {P : Program} {α : Type} [Flat α] {f : FuncId} {args : Array Value} {w : World} {e : TypeId} {xs : List α} (h : Calls P f args w (Ret (fun v : Value => v) (fun v => [ownF e v xs]) w)) :
    Calls P f args w (Ret (fun s : Sv => .slice s.a s.n s.c) (fun s => [ownF e (.slice s.a s.n s.c) xs]) w) := h.mono fun en w' ⟨v, he, hk⟩ => by
  obtain ⟨s, rfl⟩ := ownF_sv (List.mem_singleton.2 rfl) hk
  exact ⟨s, he, hk⟩
/-- Data that hold a list each (β), and the raw rows that stand for them. -/
class Nst (D : Type) (R β : outParam Type) where
  sv : R → Sv
  ls : D → List β
  eqv : R → D → Prop
section
variable {D R β : Type} [N : Nst D R β]
def Match (xs : List R) (ds : List D) : Prop := xs.length = ds.length ∧ ∀ (i : Nat) (x : R) (d : D), xs[i]? = some x → ds[i]? = some d → Nst.eqv x d
theorem Match.nil : Match ([] : List R) ([] : List D) := ⟨rfl, fun i x d h => by simp at h⟩
theorem Match.snoc {xs : List R} {ds : List D} {k : Nat} {d : D} {x : R} (h : Match xs (ds.take k)) (hd : ds[k]? = some d) (hx : N.eqv x d) : Match (xs ++ [x]) (ds.take (k + 1)) := by
  have hk : k < ds.length := (List.getElem?_eq_some_iff.1 hd).1
  have hl : xs.length = k := by rw [h.1, List.length_take]; omega
  refine ⟨by simp [hl]; omega, fun i y u hy hu => ?_⟩
  rcases Nat.lt_or_ge i k with hi | hi
  · rw [List.getElem?_append_left (by omega)] at hy
    rw [List.getElem?_take_of_lt (by omega)] at hu
    exact h.2 i y u hy (by rw [List.getElem?_take_of_lt hi]; exact hu)
  · have hi2 : i < (ds.take (k + 1)).length := (List.getElem?_eq_some_iff.1 hu).1
    have : i = k := by rw [List.length_take] at hi2; omega
    subst this
    rw [List.getElem?_append_right (by omega), hl, Nat.sub_self] at hy
    rw [List.getElem?_take_of_lt (by omega), hd] at hu
    simp only [List.getElem?_cons_zero, Option.some.injEq] at hy hu
    subst hy; subst hu
    exact hx
end
section
variable {D R β : Type} [Flat β] [N : Nst D R β]
/-- The inner rows. -/
def inn (e : TypeId) (xs : List R) (ds : List D) : List Ck := (xs.zip ds).map fun p => ownF e (.slice (N.sv p.1).a (N.sv p.1).n (N.sv p.1).c) (N.ls p.2)
theorem inn_snoc {e : TypeId} {xs : List R} {ds : List D} {k : Nat} {d : D} {x : R} (h : Match xs (ds.take k)) (hd : ds[k]? = some d) : inn e (xs ++ [x]) (ds.take (k + 1)) = inn e xs (ds.take k) ++ [ownF e (.slice (N.sv x).a (N.sv x).n (N.sv x).c) (N.ls d)] := by
  unfold inn
  rw [List.take_add_one, hd, List.zip_append h.1]
  simp
end
section
variable {D R β : Type} [Flat R] [Flat β] [N : Nst D R β]
/-- The slice v reads as the data ds, each with a list of its own. -/
def RdN (w : World) (v : Value) (ds : List D) : Prop := ∃ xs : List R, RdF w v xs ∧ Match xs ds ∧ ∀ (i : Nat) (x : R) (d : D), xs[i]? = some x → ds[i]? = some d → RdF w (.slice (N.sv x).a (N.sv x).n (N.sv x).c) (N.ls d)
theorem RdN.now {w0 w : World} {K : List Ck} {v : Value} {ds : List D} (h : RdN w0 v ds) (hw : KOk w0 K w) : RdN w v ds := by
  obtain ⟨xs, h1, h2, h3⟩ := h
  exact ⟨xs, h1.now hw, h2, fun i x t hx ht => (h3 i x t hx ht).now hw⟩
theorem RdN.one {w : World} {v : Value} {ds : List D} (h : RdN w v ds) : v.oneCell' = true := by
  obtain ⟨xs, h1, _⟩ := h
  exact h1.one
theorem RdN.le {w : World} {v : Value} {ds : List D} (h : RdN w v ds) : ds.length ≤ maxLen := by
  obtain ⟨xs, h1, h2, _⟩ := h
  rw [← h2.1]
  exact h1.le
theorem RdN.nil (w : World) : RdN w (.slice none 0 0) ([] : List D) := ⟨[], RdF.nil w, Match.nil, fun i x d h => by simp at h⟩
theorem RdN.of_own {w0 w : World} {K : List Ck} {v : Value} {xs : List R} {ds : List D} {e0 e : TypeId} (hw : KOk w0 K w) (hM : Match xs ds) (hm : ownF e0 v xs ∈ K) (hs : ∀ k ∈ inn e xs ds, k ∈ K) : RdN w v ds := by
  refine ⟨xs, RdF.of_own hm hw, hM, fun i x t hx ht => RdF.of_own (e := e) (hs _ ?_) hw⟩
  unfold inn
  refine List.mem_map.2 ⟨(x, t), ?_, rfl⟩
  exact List.mem_of_getElem? (i := i) (by simp [List.getElem?_zip_eq_some, hx, ht])
end
/-- All of L are in K. -/
inductive InK : List Ck → List Ck → Prop where
  | here (L K : List Ck) : InK L (L ++ K)
  | all (L : List Ck) : InK L L
  | skip {L M K : List Ck} (h : InK L K) : InK L (M ++ K)
  | tail {L K : List Ck} {k : Ck} (h : InK L K) : InK L (k :: K)
theorem InK.mem {L K : List Ck} (h : InK L K) : ∀ k ∈ L, k ∈ K := by
  induction h with
  | here K => exact fun k hk => List.mem_append_left _ hk
  | all => exact fun k hk => hk
  | skip _ ih => exact fun k hk => List.mem_append_right _ (ih k hk)
  | tail _ ih => exact fun k hk => List.mem_cons_of_mem _ (ih k hk)
theorem ink {L K : List Ck} (h : InK L K := by (repeat (first | exact InK.here _ _ | exact InK.all _ | apply InK.tail | apply InK.skip)); first | done | fail) : InK L K := h
theorem RdN.ofK {D R β : Type} [Flat R] [Flat β] [N : Nst D R β] {w0 w : World} {K : List Ck} {v : Value} {xs : List R} {ds : List D} {e0 e : TypeId} (hw : KOk w0 K w) (hm : ownF e0 v xs ∈ K := by exact mm) (hM : Match xs ds := by assumption) (hs : InK (inn e xs ds) K := by exact ink) : RdN w v ds := RdN.of_own hw hM hm hs.mem
/-- A nested row that a callee reads. -/
theorem rdN {D R β : Type} [Flat R] [Flat β] [N : Nst D R β] {w : World} {v : Value} {ds : List D} (h : RdN w v ds := by first | assumption | exact RdN.now (by assumption) (by assumption) | exact RdN.ofK (by assumption) | exact RdN.nil _) : RdN w v ds := h
theorem Pick.mid : ∀ (s t : List Ck) (k : Ck), Pick (s ++ k :: t) k (s ++ t)
  | [], t, k => .here k t
  | x :: s, t, k => .there x k _ _ (Pick.mid s t k)
theorem KSub.ofPerm : ∀ (K' K : List Ck), K.Perm K' → KSub K K'
  | [], K, _ => .nil K
  | k :: K2, K, h => by
    obtain ⟨s, t, rfl⟩ := List.append_of_mem (h.mem_iff.2 List.mem_cons_self)
    have h2 : (s ++ t).Perm K2 := List.Perm.cons_inv ((List.perm_middle).symm.trans h)
    exact .pick (Pick.mid s t k) (KSub.ofPerm K2 _ h2)

/-! ### The beginning of a slice -/
def pre (v : Value) (m : Nat) : Value := match v with
  | .slice a _ c => .slice a m c
  | v => v
theorem adr_len (A : Option Addr) (n m c : Nat) : adr (.slice A n c) = adr (.slice A m c) := by cases A <;> rfl
theorem Rd.pre {w : World} {B sz n m : Nat} {v : Value} {cs : List Value} (h : Rd w B sz v n cs) (hm : m ≤ n) : Rd w B sz (E.pre v m) m (cs.take (m * sz)) := by
  obtain ⟨A, c, rfl, h1, h2, h3⟩ := h.sl
  have hle : m * sz ≤ n * sz := Nat.mul_le_mul_right _ hm
  have hl := h.len
  refine ⟨⟨A, c, rfl, by omega, h2, fun h0 => h3 (by omega)⟩, by rw [List.length_take]; omega, fun h0 => ?_, fun j u hj => ?_⟩
  · have := h.blk (by omega)
    rw [adr_len A n m] at this
    exact this
  · have hjl : j < m * sz := by
      have := (List.getElem?_eq_some_iff.1 hj).1
      simp at this; omega
    rw [List.getElem?_take_of_lt hjl] at hj
    have := h.cell j u hj
    rw [adr_len A n m] at this
    exact this
theorem cells_take {α : Type} [Flat α] (xs : List α) (m : Nat) (hm : m ≤ xs.length) : cells (xs.take m) = (cells xs).take (m * Flat.k α) := by
  have h1 : cells xs = cells (xs.take m) ++ cells (xs.drop m) := by rw [← cells_append, List.take_append_drop]
  have h2 : (cells (xs.take m)).length = m * Flat.k α := by rw [cells_length, List.length_take, Nat.min_eq_left hm]
  rw [h1, ← h2, List.take_left']
  rfl
theorem RdF.pre {α : Type} [Flat α] {w : World} {v : Value} {xs : List α} (h : RdF w v xs) {m : Nat} (hm : m ≤ xs.length) : RdF w (E.pre v m) (xs.take m) := by
  have h1 := Rd.pre h hm
  unfold RdF
  rw [cells_take _ _ hm, List.length_take, Nat.min_eq_left hm]
  exact h1
section
variable {P : Program} {N : Nat} {w0 : World} {K K' Kp : List Ck} {F F' : List (Nat × En)} {c : Bool} {Q : Exit → Act → World → Prop} {ops : Array Oper} {rest : List Oper} {d : Nat} {dd : Option Tmp} {ty : TypeId} {pos : String} {af : Array Edge} {gd : Option (Nat × Bool)}
variable {x y ix : Operand} {t t' : TypeId} {u v : Value} {o : Oper} {Kn : Act → World → Prop} {m m' : Md} {e : En} {gk : Bool}
/-- xs[:i] -/
theorem a_pre {n k sz : Nat} {i : Int} {kd : IntKind} {el : TypeId} [T : TSlc P t el] [S : TSize P el sz] (h : Opd N F c x v := by first | exact Opd.pl rfl | exact Opd.gd rfl (fun h => h)) (hv : Sl w0 K v n := by first | exact Sl.rdF (by assumption) | exact Sl.ownF mm | exact Sl.is (by assumption)) (hi : Opd N F c ix (.int kd i) := by first | exact Opd.pl rfl | exact Opd.gd rfl (fun h => h)) (hk : c = true → i = (k : Int) ∧ k ≤ n := by first | exact (fun _ => ⟨rfl, by omega⟩) | exact (fun _ => ⟨(Int.toNat_of_nonneg (by omega)).symm, by omega⟩)) :
    YV P N w0 K F c ⟨dd, .slice t x none (some ix) none, ty, pos, af, gd⟩ (pre v k) := fun a w ha hc hw => by
  obtain ⟨rfl, hlt⟩ := hk hc
  obtain ⟨A, cp, rfl, h1, h2, _⟩ := hv w hw
  have h0 := h a ha hc
  have hle : (k : Int) ≤ cp := by omega
  have hA : (if cp = 0 then A else A.map (fun b => b.add 0)) = A := by
    split
    · rfl
    · cases A <;> rfl
  simp [execOp, h0, hi a ha hc, Instr.sliceAt, Instr.slice, Instr.sliceBounds, Instr.sliceBound, asIntOf, run_underlying T.is, S.size, pre, hlt, show k ≤ cp by omega]
  intro _; cases A <;> rfl
/-! ### Loads and their like, with chunks behind lists of chunks -/
theorem a_loadM {p : Value} [T : TOne P t] (h : Opd N F c x p := by first | exact Opd.pl rfl | exact Opd.gd rfl (fun h => h)) (hl : Ld w0 K c p [v] := by first | exact Ld.box1 mm rfl | exact Ld.ownS mm (by first | assumption | exact (fun _ => by assumption)) (by rfl) (by rfl)) : YV P N w0 K F c ⟨dd, .load t x, ty, pos, af, gd⟩ v := y_load h hl
theorem a_load_aggM {p : Value} {vs : List Value} {n : Nat} [T : TAgg P t n] (h : Opd N F c x p := by first | exact Opd.pl rfl | exact Opd.gd rfl (fun h => h)) (hl : LdC w0 K c p n vs := by first | exact LdC.box mm sbc | exact LdC.ownS mm (by first | assumption | exact (fun _ => by assumption)) (by rfl) sbc) : YV P N w0 K F c ⟨dd, .load t x, ty, pos, af, gd⟩ (.agg vs.toArray) := y_load_agg h hl.1 hl.2
theorem a_lenM {n : Nat} {e : TypeId} [T : TSlc P t e] (h : Opd N F c x v := by first | exact Opd.pl rfl | exact Opd.gd rfl (fun h => h)) (hv : Sl w0 K v n := by exact Sl.ownF mm) : YV P N w0 K F c ⟨dd, .call { callee := .builtin .len, args := #[x], argTypes := #[t] }, ty, pos, af, gd⟩ (.int .i64 (n : Int)) := y_len h hv
theorem a_idxM {n sz k : Nat} {i : Int} {e : TypeId} {kd : IntKind} [T : TSlc P t e] [S : TSize P e sz] (h : Opd N F c x v := by first | exact Opd.pl rfl | exact Opd.gd rfl (fun h => h)) (hv : Sl w0 K v n := by exact Sl.ownF mm) (hi : Opd N F c ix (.int kd i) := by first | exact Opd.pl rfl | exact Opd.gd rfl (fun h => h))
    (hk : c = true → i = (k : Int) ∧ k < n := by first | exact (fun _ => ⟨rfl, by omega⟩) | (intro hcc; simp only [Bool.and_eq_true, Bool.or_eq_true, Bool.not_eq_true', decide_eq_true_eq, decide_eq_false_iff_not] at hcc; exact ⟨rfl, by omega⟩) | (intro hcc; (try simp only [Bool.and_eq_true, Bool.or_eq_true, Bool.not_eq_true', decide_eq_true_eq, decide_eq_false_iff_not] at hcc); exact ⟨(Int.toNat_of_nonneg (by omega)).symm, by omega⟩)) :
    YV P N w0 K F c ⟨dd, .indexAddr t x ix, ty, pos, af, gd⟩ (eptr v sz k 0) := y_idx h hv hi hk
theorem q2 {Kq : List Ck} (hr : HG P N w0 ops Q m' rest ((d, e) :: F) K) (hd : o.dst = some d := by rfl) (hN : d < N := by decide) (hG : GE N F ops o.guard c gk := by first | exact GE.n | exact GE.s (by first | exact GV.pt rfl rfl | exact GV.pf rfl rfl | exact GV.gt rfl rfl | exact GV.gf rfl rfl)) (hX : NX m m' := by first | exact NX.l | exact NX.q | exact NX.x _ _ _ _ | exact NX.y _ _ _ _) (hQ : KQ ops K m Kq := by first | exact KQ.l | exact KQ.q | exact KQ.x (by decide +kernel) ks) (hy : YV P N w0 Kq F c o v := by first | exact a_loadM | exact a_load_aggM | exact a_lenM | exact a_idxM | exact a_pre) (he : IE gk c v e := by first | exact IE.n _ _ | exact IE.s _ _) : HG P N w0 ops Q m (o :: rest) F K := hgv hd hN hG hQ hX hy he hr
end
end E
end Go.Proofs.YtpiiapoafmnhhaaGreat
/- The engine, second edition, fourth part: parts of slices; slices that read under chunks; bytes and texts. -/
namespace Go.Proofs.YtpiiapoafmnhhaaGreat
namespace E
set_option linter.unusedSimpArgs false
set_option linter.unusedVariables false
open Go Go.RowKit
instance : Flat UInt8 := ⟨1, fun i => [.int .u8 (i.toNat : Int)], fun _ => rfl, fun _ u h => by simp only [List.mem_cons, List.mem_nil_iff, or_false] at h; subst h; rfl⟩
/-! ### Parts of slices -/
def part (v : Value) (sz i j : Nat) : Value := match v with
  | .slice a _ c => .slice (if c = i then a else a.map (fun b => b.add (i * sz))) (j - i) (c - i)
  | v => v
theorem Rd.part {w : World} {B sz n i j : Nat} {v : Value} {cs : List Value} (h : Rd w B sz v n cs) (hi : i ≤ j) (hj : j ≤ n) : Rd w B sz (E.part v sz i j) (j - i) ((cs.drop (i * sz)).take ((j - i) * sz)) := by
  obtain ⟨A, c, rfl, h1, h2, h3⟩ := h.sl
  have hl := h.len
  have m1 : j * sz ≤ n * sz := Nat.mul_le_mul_right _ hj
  have m2 : (j - i) * sz = j * sz - i * sz := Nat.sub_mul j i sz
  have m3 : i * sz ≤ j * sz := Nat.mul_le_mul_right _ hi
  have hadr : i < j → E.adr (E.part (.slice A n c) sz i j) = (E.adr (.slice A n c)).add (i * sz) := fun hij => by
    obtain ⟨a, rfl⟩ := h3 (by omega)
    simp only [E.part]
    rw [if_neg (by omega)]
    rfl
  refine ⟨⟨_, _, rfl, by omega, by omega, fun h0 => ?_⟩, by rw [List.length_take, List.length_drop]; omega, fun h0 => ?_, fun k u hk => ?_⟩
  · obtain ⟨a, rfl⟩ := h3 (by omega)
    rw [if_neg (by omega)]
    exact ⟨_, rfl⟩
  · rw [hadr (by omega), block_of_add]
    exact h.blk (by omega)
  · have hkl : k < (j - i) * sz := by
      have := (List.getElem?_eq_some_iff.1 hk).1
      simp at this; omega
    have hij : i < j := by
      rcases Nat.lt_or_ge i j with h | h
      · exact h
      · rw [show j - i = 0 by omega] at hkl; omega
    rw [List.getElem?_take_of_lt hkl, List.getElem?_drop] at hk
    have := h.cell _ u hk
    rw [hadr hij, add_of_add]
    exact this
theorem cells_drop {α : Type} [Flat α] (xs : List α) (m : Nat) (hm : m ≤ xs.length) : cells (xs.drop m) = (cells xs).drop (m * Flat.k α) := by
  have h1 : cells xs = cells (xs.take m) ++ cells (xs.drop m) := by rw [← cells_append, List.take_append_drop]
  have h2 : (cells (xs.take m)).length = m * Flat.k α := by rw [cells_length, List.length_take, Nat.min_eq_left hm]
  rw [h1, ← h2, List.drop_left']
  rfl
theorem RdF.part {α : Type} [Flat α] {w : World} {v : Value} {xs : List α} (h : RdF w v xs) {i j : Nat} (hi : i ≤ j) (hj : j ≤ xs.length) : RdF w (E.part v (Flat.k α) i j) ((xs.drop i).take (j - i)) := by
  have h1 := Rd.part h hi hj
  have hl : ((xs.drop i).take (j - i)).length = j - i := by rw [List.length_take, List.length_drop]; omega
  unfold RdF
  rw [hl, cells_take _ _ (by rw [List.length_drop]; omega), cells_drop _ _ (by omega)]
  exact h1
theorem RdF.isl {α : Type} [Flat α] {w : World} {v : Value} {xs : List α} (h : RdF w v xs) : IsSl v xs.length := h.sl
theorem RdF.suf {α : Type} [Flat α] {w : World} {v : Value} {xs : List α} (h : RdF w v xs) {i : Nat} (hi : i ≤ xs.length) : RdF w (E.part v (Flat.k α) i xs.length) (xs.drop i) := by
  have := h.part hi (Nat.le_refl _)
  rwa [List.take_of_length_le (by rw [List.length_drop]; omega)] at this
section
variable {P : Program} {N : Nat} {w0 : World} {K K' Kp : List Ck} {F F' : List (Nat × En)} {c : Bool} {Q : Exit → Act → World → Prop} {ops : Array Oper} {rest : List Oper} {d : Nat} {dd : Option Tmp} {ty : TypeId} {pos : String} {af : Array Edge} {gd : Option (Nat × Bool)}
variable {x y ix iy : Operand} {t t' : TypeId} {u v : Value} {o : Oper} {Kn : Act → World → Prop} {m m' : Md} {e : En} {gk : Bool}
theorem RdIn.suf {α : Type} [Flat α] {v : Value} {xs : List α} (h : RdIn w0 K v xs) {i : Nat} (hi : i ≤ xs.length) : RdIn w0 K (E.part v (Flat.k α) i xs.length) (xs.drop i) := fun w hw => (h w hw).suf hi
theorem RdIn.part {α : Type} [Flat α] {v : Value} {xs : List α} (h : RdIn w0 K v xs) {i j : Nat} (hi : i ≤ j) (hj : j ≤ xs.length) : RdIn w0 K (E.part v (Flat.k α) i j) ((xs.drop i).take (j - i)) := fun w hw => (h w hw).part hi hj
theorem RdIn.pre {α : Type} [Flat α] {v : Value} {xs : List α} (h : RdIn w0 K v xs) {i : Nat} (hi : i ≤ xs.length) : RdIn w0 K (E.pre v i) (xs.take i) := fun w hw => (h w hw).pre hi
theorem Sl.rdIn {α : Type} [Flat α] {L : List Ck} {v : Value} {xs : List α} (h : RdIn w0 L v xs) (hs : SubL K L := by exact subl) : Sl w0 K v xs.length := fun w hw => (h w (hw.sub hs.ksub)).sl
theorem Ld.rdIn {α : Type} [Flat α] {L : List Ck} {v : Value} {xs : List α} {k j : Nat} {x : α} {us : List Value} (h : RdIn w0 L v xs) (hs : SubL K L) (hx : c = true → xs[k]? = some x) (hj : SubN (Flat.f x) j us) : Ld w0 K c (eptr v (Flat.k α) k j) us := fun hc =>
  ⟨_, rfl, fun w hw i u hu => by
    have h1 := h w (hw.sub hs.ksub)
    rw [add_of_add, Nat.add_assoc]
    exact h1.cell _ _ (cells_get xs k (j + i) x u (hx hc) (hj.get i u hu))⟩
theorem LdC.rdIn {α : Type} [Flat α] {L : List Ck} {v : Value} {xs : List α} {sz k j n : Nat} {x : α} {us : List Value} (h : RdIn w0 L v xs) (hs : SubL K L) (hx : c = true → xs[k]? = some x) (hsz : Flat.k α = sz) (hj : SubC (Flat.f x) j n us) : LdC w0 K c (eptr v sz k j) n us := by subst hsz; exact ⟨Ld.rdIn h hs hx hj.sub.1, hj.sub.2⟩
theorem subN1 {cs : List Value} {j : Nat} {u : Value} (h : cs[j]? = some u) : SubN cs j [u] := by
  induction cs generalizing j with
  | nil => simp at h
  | cons c cs ih =>
    cases j with
    | zero => simp only [List.getElem?_cons_zero, Option.some.injEq] at h; subst h; exact .here _ _ _ (.nil _)
    | succ j => exact .there _ _ _ _ (ih (by simpa using h))
theorem Ld.rdIn1 {α : Type} [Flat α] {L : List Ck} {v : Value} {xs : List α} {sz k j : Nat} {x : α} {u : Value} (h : RdIn w0 L v xs) (hs : SubL K L) (hx : c = true → xs[k]? = some x) (hsz : Flat.k α = sz) (hj : (Flat.f x)[j]? = some u) : Ld w0 K c (eptr v sz k j) [u] := by
  subst hsz
  exact Ld.rdIn h hs hx (subN1 hj)
/-- What a slice under chunks holds. -/
theorem a_loadJ {p : Value} [T : TOne P t] (h : Opd N F c x p := by first | exact Opd.pl rfl | exact Opd.gd rfl (fun h => h)) (hl : Ld w0 K c p [v] := by exact Ld.rdIn1 (by assumption) subl (by first | assumption | exact (fun _ => by assumption)) (by rfl) (by rfl)) : YV P N w0 K F c ⟨dd, .load t x, ty, pos, af, gd⟩ v := y_load h hl
theorem a_load_aggJ {p : Value} {vs : List Value} {n : Nat} [T : TAgg P t n] (h : Opd N F c x p := by first | exact Opd.pl rfl | exact Opd.gd rfl (fun h => h)) (hl : LdC w0 K c p n vs := by exact LdC.rdIn (by assumption) subl (by first | assumption | exact (fun _ => by assumption)) (by rfl) sbc) : YV P N w0 K F c ⟨dd, .load t x, ty, pos, af, gd⟩ (.agg vs.toArray) := y_load_agg h hl.1 hl.2
theorem a_lenJ {n : Nat} {e : TypeId} [T : TSlc P t e] (h : Opd N F c x v := by first | exact Opd.pl rfl | exact Opd.gd rfl (fun h => h)) (hv : Sl w0 K v n := by exact Sl.rdIn (by assumption)) : YV P N w0 K F c ⟨dd, .call { callee := .builtin .len, args := #[x], argTypes := #[t] }, ty, pos, af, gd⟩ (.int .i64 (n : Int)) := y_len h hv
theorem a_idxJ {n sz k : Nat} {i : Int} {e : TypeId} {kd : IntKind} [T : TSlc P t e] [S : TSize P e sz] (h : Opd N F c x v := by first | exact Opd.pl rfl | exact Opd.gd rfl (fun h => h)) (hv : Sl w0 K v n := by exact Sl.rdIn (by assumption)) (hi : Opd N F c ix (.int kd i) := by first | exact Opd.pl rfl | exact Opd.gd rfl (fun h => h))
    (hk : c = true → i = (k : Int) ∧ k < n := by first | exact (fun _ => ⟨rfl, by omega⟩) | (intro hcc; simp only [Bool.and_eq_true, Bool.or_eq_true, Bool.not_eq_true', decide_eq_true_eq, decide_eq_false_iff_not] at hcc; exact ⟨rfl, by omega⟩) | (intro hcc; (try simp only [Bool.and_eq_true, Bool.or_eq_true, Bool.not_eq_true', decide_eq_true_eq, decide_eq_false_iff_not] at hcc); exact ⟨(Int.toNat_of_nonneg (by omega)).symm, by omega⟩)) :
    YV P N w0 K F c ⟨dd, .indexAddr t x ix, ty, pos, af, gd⟩ (eptr v sz k 0) := y_idx h hv hi hk
/-- xs[i:] -/
theorem a_suf {n k sz : Nat} {i : Int} {kd : IntKind} {el : TypeId} [T : TSlc P t el] [S : TSize P el sz] (h : Opd N F c x v := by first | exact Opd.pl rfl | exact Opd.gd rfl (fun h => h)) (hv : Sl w0 K v n := by first | exact Sl.rdF (by assumption) | exact Sl.ownF mm | exact Sl.rdIn (by assumption) | exact Sl.is (by assumption)) (hi : Opd N F c ix (.int kd i) := by first | exact Opd.pl rfl | exact Opd.gd rfl (fun h => h)) (hk : c = true → i = (k : Int) ∧ k ≤ n := by first | exact (fun _ => ⟨rfl, by omega⟩) | exact (fun _ => ⟨(Int.toNat_of_nonneg (by omega)).symm, by omega⟩)) :
    YV P N w0 K F c ⟨dd, .slice t x (some ix) none none, ty, pos, af, gd⟩ (part v sz k n) := fun a w ha hc hw => by
  obtain ⟨rfl, hlt⟩ := hk hc
  obtain ⟨A, cp, rfl, h1, h2, _⟩ := hv w hw
  have h0 := h a ha hc
  simp [execOp, h0, hi a ha hc, Instr.sliceAt, Instr.slice, Instr.sliceBounds, Instr.sliceBound, asIntOf, run_underlying T.is, S.size, part, hlt, h1]
/-- xs[i:j] -/
theorem a_mid {n k l sz : Nat} {i j : Int} {kd kd' : IntKind} {el : TypeId} [T : TSlc P t el] [S : TSize P el sz] (h : Opd N F c x v := by first | exact Opd.pl rfl | exact Opd.gd rfl (fun h => h)) (hv : Sl w0 K v n := by first | exact Sl.rdF (by assumption) | exact Sl.ownF mm | exact Sl.rdIn (by assumption) | exact Sl.is (by assumption)) (hi : Opd N F c ix (.int kd i) := by first | exact Opd.pl rfl | exact Opd.gd rfl (fun h => h)) (hj : Opd N F c iy (.int kd' j) := by first | exact Opd.pl rfl | exact Opd.gd rfl (fun h => h)) (hk : c = true → i = (k : Int) ∧ j = (l : Int) ∧ k ≤ l ∧ l ≤ n := by first | exact (fun _ => ⟨rfl, rfl, by omega, by omega⟩)) :
    YV P N w0 K F c ⟨dd, .slice t x (some ix) (some iy) none, ty, pos, af, gd⟩ (part v sz k l) := fun a w ha hc hw => by
  obtain ⟨rfl, rfl, hlt, hl2⟩ := hk hc
  obtain ⟨A, cp, rfl, h1, h2, _⟩ := hv w hw
  have h0 := h a ha hc
  simp [execOp, h0, hi a ha hc, hj a ha hc, Instr.sliceAt, Instr.slice, Instr.sliceBounds, Instr.sliceBound, asIntOf, run_underlying T.is, S.size, part, hlt, show l ≤ cp by omega]
theorem a_preJ {n k sz : Nat} {i : Int} {kd : IntKind} {el : TypeId} [T : TSlc P t el] [S : TSize P el sz] (h : Opd N F c x v := by first | exact Opd.pl rfl | exact Opd.gd rfl (fun h => h)) (hv : Sl w0 K v n := by exact Sl.rdIn (by assumption)) (hi : Opd N F c ix (.int kd i) := by first | exact Opd.pl rfl | exact Opd.gd rfl (fun h => h)) (hk : c = true → i = (k : Int) ∧ k ≤ n := by first | exact (fun _ => ⟨rfl, by omega⟩) | exact (fun _ => ⟨(Int.toNat_of_nonneg (by omega)).symm, by omega⟩)) :
    YV P N w0 K F c ⟨dd, .slice t x none (some ix) none, ty, pos, af, gd⟩ (pre v k) := a_pre h hv hi hk
/-- Quiet operations on slices under chunks. -/
theorem q3 {Kq : List Ck} (hr : HG P N w0 ops Q m' rest ((d, e) :: F) K) (hd : o.dst = some d := by rfl) (hN : d < N := by decide) (hG : GE N F ops o.guard c gk := by first | exact GE.n | exact GE.s (by first | exact GV.pt rfl rfl | exact GV.pf rfl rfl | exact GV.gt rfl rfl | exact GV.gf rfl rfl)) (hX : NX m m' := by first | exact NX.l | exact NX.q | exact NX.x _ _ _ _ | exact NX.y _ _ _ _) (hQ : KQ ops K m Kq := by first | exact KQ.l | exact KQ.q | exact KQ.x (by decide +kernel) ks) (hy : YV P N w0 Kq F c o v := by first | exact a_loadJ | exact a_load_aggJ | exact a_lenJ | exact a_idxJ | exact a_suf | exact a_mid | exact a_preJ) (he : IE gk c v e := by first | exact IE.n _ _ | exact IE.s _ _) : HG P N w0 ops Q m (o :: rest) F K := hgv hd hN hG hQ hX hy he hr
/-! ### A row of the call's own, cut -/
theorem KOk.pre {α : Type} [Flat α] {w : World} {xs : List α} {e : TypeId} {k : Nat} (h : KOk w0 (ownF e v xs :: K) w) (hk : k ≤ xs.length) : KOk w0 (ownF e (E.pre v k) (xs.take k) :: K) w := by
  have hh := h.holds _ List.mem_cons_self
  have hl : (xs.take k).length = k := by rw [List.length_take, Nat.min_eq_left hk]
  have hle : k * Flat.k α ≤ xs.length * Flat.k α := Nat.mul_le_mul_right _ hk
  unfold ownF at hh
  obtain ⟨h1, h2⟩ := hh
  rcases h2 with ⟨rfl, h0⟩ | ⟨g, cap, cur, rfl, hB, hb, hc, hm, hz, ht⟩
  · refine h.turn_nil (Below.refl _ _) ?_ (fun g' hg' => by simp [ownF, Ck.blk, E.pre, Value.ownBlock] at hg')
    have hk0 : k = 0 := by omega
    subst hk0
    exact ⟨cells_length _, Or.inl ⟨rfl, by simp⟩⟩
  · refine h.turn rfl (World.grownBy.refl w _) ?_ (Or.inl rfl)
    refine ⟨cells_length _, Or.inr ⟨g, cap, cur, by rw [hl]; rfl, hB, hb, by omega, hm, hz, ?_⟩⟩
    rw [hl, cells_take _ _ hk, ← ht, List.take_take, Nat.min_eq_left hle]
/-- xs[:i] of a row of the call's own, which goes on as that. -/
theorem spre {α : Type} [Flat α] {xs : List α} {e el : TypeId} {k sz : Nat} {i : Int} {kd : IntKind} [T : TSlc P t el] [S : TSize P el sz] (hr : HG P N w0 ops Q m' rest ((d, .pl (pre v k)) :: F) (ownF e (pre v k) (xs.take k) :: K')) (hN : d < N := by decide) (h : Opd N F true x v := by exact Opd.pl rfl) (hi : Opd N F true ix (.int kd i) := by exact Opd.pl rfl) (hp : Pick K (ownF e v xs) K' := by exact pk) (hk : i = (k : Int) ∧ k ≤ xs.length := by first | exact ⟨rfl, by omega⟩ | exact ⟨(Int.toNat_of_nonneg (by omega)).symm, by omega⟩) (hX : NX m m' := by first | exact NX.l | exact NX.q | exact NX.x _ _ _ _ | exact NX.y _ _ _ _) (hA : KA ops m := by first | exact KA.l | exact KA.y | exact KA.x (by decide +kernel)) (hB : ∀ (_ : Unit), KB ops m (ownF e (pre v k) (xs.take k) :: K') := by first | exact fun _ => KB.l | exact fun _ => KB.x (Or.inr ks) | exact fun _ => KB.x (Or.inl (by decide +kernel)) | exact fun _ => KB.y (Or.inr ks) | exact fun _ => KB.y (Or.inl (by decide +kernel))) :
    HG P N w0 ops Q m (⟨some d, .slice t x none (some ix) none, ty, pos, af, none⟩ :: rest) F K := hgo (Fi := fun _ : Unit => (d, .pl (pre v k)) :: F) (Ki := fun _ => ownF e (pre v k) (xs.take k) :: K') hA hB hX rfl (fun _ => hr) (fun Q' Kn hk' a w ha hw => by
  obtain ⟨rfl, hlt⟩ := hk
  have hv : Sl w0 K v xs.length := Sl.ownF hp.mem
  obtain ⟨A, cp, rfl, h1, h2, _⟩ := hv w hw
  refine ho_val (pre (.slice A xs.length cp) k) w ?_ (hk' () _ _ (ha.put d (.pl _) _ hN rfl) ((hw.pick hp).pre hlt))
  simp [execOp, h a ha rfl, hi a ha rfl, Instr.sliceAt, Instr.slice, Instr.sliceBounds, Instr.sliceBound, asIntOf, run_underlying T.is, S.size, pre, hlt, show k ≤ cp by omega]
  intro _; cases A <;> rfl)
/-- append, of what reads under chunks. -/
theorem apI {α : Type} [Flat α] {e : TypeId} {xs ys : List α} {sz bytes : Nat} [T : TSlc P t e] [R : TRow P e sz bytes] (hx : Opd N F true x v := by exact Opd.pl rfl) (hy : Opd N F true y u := by exact Opd.pl rfl) (hp : Pick K (ownF e v xs) K' := by exact pk) (hs : RdIn w0 K' u ys) (hr : ∀ v', v'.oneCell' = true → HG P N w0 ops Q m' rest ((d, .pl v') :: F) (ownF e v' (xs ++ ys) :: K')) (hN : d < N := by decide) (hb : (xs.length + ys.length) * bytes ≤ 140737488355328 ∧ xs.length + ys.length ≤ maxLen := by first | (simp only [maxLen]; omega) | (simp only [List.length_append, List.length_cons, List.length_nil, maxLen] at *; omega)) (hsz : sz = Flat.k α := by rfl) (hX : NX m m' := by first | exact NX.l | exact NX.q | exact NX.x _ _ _ _ | exact NX.y _ _ _ _) (hA : KA ops m := by first | exact KA.l | exact KA.y | exact KA.x (by decide +kernel)) (hB : ∀ (z : { v' : Value // v'.oneCell' = true }), KB ops m (ownF e z.1 (xs ++ ys) :: K') := by first | exact fun _ => KB.l | exact fun _ => KB.x (Or.inr ks) | exact fun _ => KB.x (Or.inl (by decide +kernel)) | exact fun _ => KB.y (Or.inr ks) | exact fun _ => KB.y (Or.inl (by decide +kernel))) :
    HG P N w0 ops Q m (⟨some d, .call { callee := .builtin .append, args := #[x, y], argTypes := #[t, t] }, ty, pos, af, none⟩ :: rest) F K := ap hr hN hx hy hp hs hb hsz hX hA hB
/-! ### Bits -/
theorem run_xor {i j : Int} (hi : 0 ≤ i ∧ i < 9223372036854775808) (hj : 0 ≤ j ∧ j < 9223372036854775808) : ∃ v : Int, (∀ w, (Op.intBits .xor .i64 i j).run P w = .ok (.int .i64 v) w) ∧ 0 ≤ v ∧ v < 9223372036854775808 := by
  obtain ⟨a, rfl⟩ := Int.eq_ofNat_of_zero_le hi.1
  obtain ⟨b, rfl⟩ := Int.eq_ofNat_of_zero_le hj.1
  have ha : a < 2 ^ 63 := by omega
  have hb : b < 2 ^ 63 := by omega
  have hx : a ^^^ b < 2 ^ 63 := Nat.xor_lt_two_pow ha hb
  refine ⟨((a ^^^ b : Nat) : Int), fun w => ?_, by omega, by omega⟩
  have e : (BitVec.ofInt IntKind.i64.bits (a : Int) ^^^ BitVec.ofInt IntKind.i64.bits (b : Int)).toNat = a ^^^ b := by
    rw [BitVec.toNat_xor, BitVec.ofInt_natCast, BitVec.ofInt_natCast, BitVec.toNat_ofNat, BitVec.toNat_ofNat, show IntKind.i64.bits = 64 from rfl, Nat.mod_eq_of_lt (by omega), Nat.mod_eq_of_lt (by omega)]
  simp only [Op.intBits, e, Sem.run_pure]
  rw [wrap_i64_of (by omega)]
end
end E
end Go.Proofs.YtpiiapoafmnhhaaGreat
