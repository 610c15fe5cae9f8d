/- The engine, seventh part: the steps of a walk, with what they ask found by themselves. -/
import Derived.Test.YtpiiapoafmnhhaaGreatEngA
namespace Go.Proofs.YtpiiapoafmnhhaaGreat
namespace E
set_option linter.unusedSimpArgs false
set_option linter.unusedVariables false
open Go Go.RowKit

class FnOk (P : Program) (f : FuncId) : Prop where
  ok : ∃ fn, P.funcs[f]? = some fn ∧ fn.body.isSome = true ∧ fn.name ≠ "runtime.NumGoroutine"

section
variable {P : Program} {N : Nat} {w0 : World} {K K' Kp : List Ck} {F : List (Nat × En)} {c : Bool} {Q : Exit → Act → World → Prop} {ops : Array Oper} {rest : List Oper} {d : Nat} {dd : Option Tmp} {ty : TypeId} {pos : String} {af : Array Edge} {gd : Option (Nat × Bool)}
variable {x y : Operand} {t t' : TypeId} {u v : Value} {o : Oper} {Kn : Act → World → Prop}

inductive SubC : List Value → Nat → Nat → List Value → Prop where
  | nil (cs : List Value) : SubC cs 0 0 []
  | here {c : Value} {cs vs : List Value} {n : Nat} (h : SubC cs 0 n vs) : SubC (c :: cs) 0 (n + 1) (c :: vs)
  | there {c : Value} {cs vs : List Value} {i n : Nat} (h : SubC cs i n vs) : SubC (c :: cs) (i + 1) n vs
theorem SubC.sub {cs vs : List Value} {i n : Nat} (h : SubC cs i n vs) : SubN cs i vs ∧ vs.length = n := by
  induction h with
  | nil cs => exact ⟨.nil _, rfl⟩
  | here _ ih => exact ⟨.here _ _ _ ih.1, by simp [ih.2]⟩
  | there _ ih => exact ⟨.there _ _ _ _ ih.1, ih.2⟩
/-- A load of n cells. -/
def LdC (w0 : World) (K : List Ck) (c : Bool) (p : Value) (n : Nat) (vs : List Value) : Prop := Ld w0 K c p vs ∧ vs.length = n
theorem LdC.box {g i n : Nat} {t : TypeId} {cs vs : List Value} (hm : .box g t cs ∈ K) (h : SubC cs i n vs) : LdC w0 K c (.pointer (some ⟨g, i, none⟩)) n vs := ⟨Ld.boxN hm h.sub.1, h.sub.2⟩
theorem LdC.rdF {α : Type} [Flat α] {v : Value} {xs : List α} {k j n : Nat} {x : α} {us : List Value} (h : RdF w0 v xs) (hx : c = true → xs[k]? = some x) (hj : SubC (Flat.f x) j n us) : LdC w0 K c (eptr v (Flat.k α) k j) n us := ⟨Ld.rdFN h hx hj.sub.1, hj.sub.2⟩
theorem LdC.ownF {α : Type} [Flat α] {v : Value} {xs : List α} {e : TypeId} {k j n : Nat} {x : α} {us : List Value} (h : E.ownF e v xs ∈ K) (hx : c = true → xs[k]? = some x) (hj : SubC (Flat.f x) j n us) : LdC w0 K c (eptr v (Flat.k α) k j) n us := ⟨Ld.ownFN h hx hj.sub.1, hj.sub.2⟩
theorem LdC.rdS {α : Type} [Flat α] {v : Value} {xs : List α} {sz k j n : Nat} {x : α} {us : List Value} (h : RdF w0 v xs) (hx : c = true → xs[k]? = some x) (hsz : Flat.k α = sz) (hj : SubC (Flat.f x) j n us) : LdC w0 K c (eptr v sz k j) n us := by subst hsz; exact LdC.rdF h hx hj
theorem LdC.ownS {α : Type} [Flat α] {v : Value} {xs : List α} {e : TypeId} {sz k j n : Nat} {x : α} {us : List Value} (h : E.ownF e v xs ∈ K) (hx : c = true → xs[k]? = some x) (hsz : Flat.k α = sz) (hj : SubC (Flat.f x) j n us) : LdC w0 K c (eptr v sz k j) n us := by subst hsz; exact LdC.ownF h hx hj
theorem a_load_aggA {p : Value} {vs : List Value} {n : Nat} [T : TAgg P t n] (h : Opd N F c x p := by first | exact Opd.pl rfl | exact Opd.gd rfl (fun h => h)) (hl : LdC w0 K c p n vs := by first | exact LdC.box (by repeat (first | exact List.Mem.head _ | apply List.Mem.tail)) (by repeat (first | exact SubC.nil _ | apply SubC.here | apply SubC.there)) | exact LdC.rdS (by assumption) (by first | assumption | exact (fun _ => by assumption)) (by rfl) (by repeat (first | exact SubC.nil _ | apply SubC.here | apply SubC.there)) | exact LdC.ownS (by repeat (first | exact List.Mem.head _ | apply List.Mem.tail)) (by first | assumption | exact (fun _ => by assumption)) (by rfl) (by repeat (first | exact SubC.nil _ | apply SubC.here | apply SubC.there))) : YV P N w0 K F c ⟨dd, .load t x, ty, pos, af, gd⟩ (.agg vs.toArray) := y_load_agg h hl.1 hl.2

theorem one_cells {v : Value} (h : v.oneCell' = true) : v.cells = [v].toArray := by cases v <;> first | rfl | (simp [Value.oneCell'] at h)
/-- The layout of a struct type: where each field lies, and how many cells it has; its zero value. -/
class TLay (P : Program) (t : TypeId) (z : outParam (List Value)) (lay : outParam (Array (Nat × Nat))) : Prop where
  zero : ∀ w, ∃ v : Value, (zeroValue t).run P w = .ok v w ∧ v.cells = z.toArray
  lay : ∃ fs : Array Field, P.underlying t = some (.struct fs) ∧ ∀ w, (fs.mapM (m := Sem) fun f => do pure (f.offset, ← sizeOf f.type)).run P w = .ok lay w
theorem TLay.run {t : TypeId} {z : List Value} {lay : Array (Nat × Nat)} [T : TLay P t z lay] (parts : Array (Nat × Value)) (cs : List Value) (h : Instr.fill (fun i => lay[i]?) z.toArray parts.toList = some cs.toArray) (w : World) : (Instr.build t parts).run P w = .ok (.agg cs.toArray) w := by
  obtain ⟨v, h1, h2⟩ := T.zero w
  obtain ⟨fs, h3, h4⟩ := T.lay
  have h5 := h4 w
  simp only [Instr.build, Sem.run_bind, h1, Result.andThen_ok, run_underlying h3, h2]
  rw [h5]
  simp only [Result.andThen_ok, h, Sem.run_pure]
inductive Fill (N : Nat) (F : List (Nat × En)) (c : Bool) (lay : Array (Nat × Nat)) : List Value → List (Nat × Operand) → List Value → Prop where
  | nil (cs : List Value) : Fill N F c lay cs [] cs
  | cons {i : Nat} {x : Operand} {v : Value} {vs : List Value} {off sz : Nat} {cs cs1 cs2 : List Value} {rest : List (Nat × Operand)} (hx : Opd N F c x v) (hv : v.cells = vs.toArray) (hl : lay[i]? = some (off, sz)) (hn : vs.length = sz) (hs : SetN cs off vs cs1) (h : Fill N F c lay cs1 rest cs2) : Fill N F c lay cs ((i, x) :: rest) cs2
theorem fold_setAt : ∀ (vs cs : List Value) (off : Nat), (vs.toArray.zipIdx.foldl (fun (cs : Array Value) (p : Value × Nat) => cs.setIfInBounds (off + p.2) p.1) cs.toArray) = (setAt cs off vs).toArray := by
  intro vs cs off
  rw [← Array.foldl_toList]
  simp only [Array.toList_zipIdx]
  have key : ∀ (vs cs : List Value) (k : Nat), List.foldl (fun (cs : Array Value) (p : Value × Nat) => cs.setIfInBounds (off + p.2) p.1) cs.toArray (vs.zipIdx k) = (setAt cs (off + k) vs).toArray := by
    intro vs
    induction vs with
    | nil => intro cs k; simp [setAt]
    | cons v vs ih =>
      intro cs k
      simp only [List.zipIdx_cons, List.foldl_cons, List.setIfInBounds_toArray, setAt]
      rw [ih, Nat.add_assoc]
  simpa using key vs cs 0
theorem Fill.run {lay : Array (Nat × Nat)} {z cs : List Value} {parts : List (Nat × Operand)} (h : Fill N F c lay z parts cs) {a : Act} (ha : FrOk N F a) (hc : c = true) : Instr.fill (fun i => lay[i]?) z.toArray (parts.map fun (p : Nat × Operand) => (p.1, a.eval p.2)) = some cs.toArray := by
  induction h with
  | nil cs => simp [Instr.fill]
  | @cons i x v vs off sz cs cs1 cs2 rest hx hv hl hn hs _ ih =>
    simp only [List.map_cons, Instr.fill, hx a ha hc, hl, hv]
    have hf := hs.fits
    have e : (vs.toArray.size ≠ sz || off + vs.toArray.size > cs.toArray.size) = false := by
      simp [hn]; omega
    rw [if_neg (by rw [e]; simp)]
    rw [fold_setAt, hs.eq]
    exact ih
theorem a_build {parts : Array (Nat × Operand)} {z cs : List Value} {lay : Array (Nat × Nat)} [T : TLay P t z lay] (h : Fill N F c lay z parts.toList cs := by repeat (first | exact Fill.nil _ | refine Fill.cons (by first | exact Opd.pl rfl | exact Opd.gd rfl (fun h => h)) (by first | rfl | exact one_cells (by assumption)) rfl rfl (by repeat (first | exact SetN.nil _ | apply SetN.here | apply SetN.there)) ?_)) : YV P N w0 K F c ⟨dd, .build t parts, ty, pos, af, gd⟩ (.agg cs.toArray) := fun a w ha hc hw => by
  have h1 := h.run ha hc
  have e : (parts.map fun (p : Nat × Operand) => (p.1, a.eval p.2)).toList = parts.toList.map fun (p : Nat × Operand) => (p.1, a.eval p.2) := by simp
  have h2 := TLay.run (P := P) (t := t) (z := z) (lay := lay) (parts.map fun (p : Nat × Operand) => (p.1, a.eval p.2)) cs (by rw [e]; exact h1) w
  simp [execOp, h2]
theorem a_eqs {n : Nat} {vs us : List Value} {is js : List Int} [T : TEqI P t n] (hx : Opd N F c x (.agg vs.toArray) := by first | exact Opd.pl rfl | exact Opd.gd rfl (fun h => h)) (hy : Opd N F c y (.agg us.toArray) := by first | exact Opd.pl rfl | exact Opd.gd rfl (fun h => h)) (hv : IntsL vs is := by repeat constructor) (hu : IntsL us js := by repeat constructor) (hi : is.length = n := by rfl) (hj : js.length = n := by rfl) : YV P N w0 K F c ⟨dd, .binOp .eql t x y t', ty, pos, af, gd⟩ (.bool (decide (is = js))) := y_eqs hx hy hv hu hi hj
theorem a_neqs {n : Nat} {vs us : List Value} {is js : List Int} [T : TEqI P t n] (hx : Opd N F c x (.agg vs.toArray) := by first | exact Opd.pl rfl | exact Opd.gd rfl (fun h => h)) (hy : Opd N F c y (.agg us.toArray) := by first | exact Opd.pl rfl | exact Opd.gd rfl (fun h => h)) (hv : IntsL vs is := by repeat constructor) (hu : IntsL us js := by repeat constructor) (hi : is.length = n := by rfl) (hj : js.length = n := by rfl) : YV P N w0 K F c ⟨dd, .binOp .neq t x y t', ty, pos, af, gd⟩ (.bool (!decide (is = js))) := y_neqs hx hy hv hu hi hj
theorem a_conv {k1 k2 : IntKind} {i : Int} [T1 : TInt P t k1] [T2 : TInt P t' k2] (hx : Opd N F c x (.int k1 i) := by first | exact Opd.pl rfl | exact Opd.gd rfl (fun h => h)) : YV P N w0 K F c ⟨dd, .convert t t' x, ty, pos, af, gd⟩ (.int k2 (k2.wrap i)) := y_conv hx

/-! ### One operation of a list -/
theorem hv (hr : HL P N w0 ops Q rest ((d, .pl v) :: F) K) (hg : o.guard = none := by rfl) (hd : o.dst = some d := by rfl) (hN : d < N := by decide) (hy : YV P N w0 K F true o v := by first | exact a_move | exact a_assign | exact a_fld_box | exact a_fld_el | exact a_load | exact a_len | exact a_idx | exact a_pick_and | exact a_pick_or | exact a_extract | exact a_lss | exact a_eql | exact a_neq | exact a_leq | exact a_gtr | exact a_geq | exact a_not | exact a_add | exact a_sub | exact a_mul | exact a_load_aggA | exact a_addw | exact a_subw | exact a_mulw | exact a_quo | exact a_rem | exact a_fld_box' | exact a_fld_el' | exact a_len_str | exact a_nilck | exact a_eqlb | exact a_neqb | exact a_build | exact a_eqs | exact a_neqs | exact a_conv) : HL P N w0 ops Q (o :: rest) F K := hl_v hg hd hN hy hr
theorem hvg {j : Nat} {want : Bool} (hr : HL P N w0 ops Q rest ((d, .gd c v) :: F) K) (hg : o.guard = some (j, want) := by rfl) (hd : o.dst = some d := by rfl) (hN : d < N := by decide) (hG : GV N F ops j want c := by first | exact GV.pt rfl rfl | exact GV.pf rfl rfl | exact GV.gt rfl rfl | exact GV.gf rfl rfl) (hy : YV P N w0 K F c o v := by first | exact a_move | exact a_assign | exact a_fld_box | exact a_fld_el | exact a_load | exact a_len | exact a_idx | exact a_pick_and | exact a_pick_or | exact a_extract | exact a_lss | exact a_eql | exact a_neq | exact a_leq | exact a_gtr | exact a_geq | exact a_not | exact a_add | exact a_sub | exact a_mul | exact a_load_aggA | exact a_addw | exact a_subw | exact a_mulw | exact a_quo | exact a_rem | exact a_fld_box' | exact a_fld_el' | exact a_len_str | exact a_nilck | exact a_eqlb | exact a_neqb | exact a_build | exact a_eqs | exact a_neqs | exact a_conv) : HL P N w0 ops Q (o :: rest) F K := hl_gv hg hG hd hN hy hr
theorem qv (hr : HQ P N w0 K ops Q rest ((d, .pl v) :: F)) (hg : o.guard = none := by rfl) (hd : o.dst = some d := by rfl) (hN : d < N := by decide) (hy : YV P N w0 K F true o v := by first | exact a_move | exact a_assign | exact a_fld_box | exact a_fld_el | exact a_load | exact a_len | exact a_idx | exact a_pick_and | exact a_pick_or | exact a_extract | exact a_lss | exact a_eql | exact a_neq | exact a_leq | exact a_gtr | exact a_geq | exact a_not | exact a_add | exact a_sub | exact a_mul | exact a_load_aggA | exact a_addw | exact a_subw | exact a_mulw | exact a_quo | exact a_rem | exact a_fld_box' | exact a_fld_el' | exact a_len_str | exact a_nilck | exact a_eqlb | exact a_neqb | exact a_build | exact a_eqs | exact a_neqs | exact a_conv) : HQ P N w0 K ops Q (o :: rest) F := hq_v hg hd hN hy hr
theorem qvg {j : Nat} {want : Bool} (hr : HQ P N w0 K ops Q rest ((d, .gd c v) :: F)) (hg : o.guard = some (j, want) := by rfl) (hd : o.dst = some d := by rfl) (hN : d < N := by decide) (hG : GV N F ops j want c := by first | exact GV.pt rfl rfl | exact GV.pf rfl rfl | exact GV.gt rfl rfl | exact GV.gf rfl rfl) (hy : YV P N w0 K F c o v := by first | exact a_move | exact a_assign | exact a_fld_box | exact a_fld_el | exact a_load | exact a_len | exact a_idx | exact a_pick_and | exact a_pick_or | exact a_extract | exact a_lss | exact a_eql | exact a_neq | exact a_leq | exact a_gtr | exact a_geq | exact a_not | exact a_add | exact a_sub | exact a_mul | exact a_load_aggA | exact a_addw | exact a_subw | exact a_mulw | exact a_quo | exact a_rem | exact a_fld_box' | exact a_fld_el' | exact a_len_str | exact a_nilck | exact a_eqlb | exact a_neqb | exact a_build | exact a_eqs | exact a_neqs | exact a_conv) : HQ P N w0 K ops Q (o :: rest) F := hq_gv hg hG hd hN hy hr

/-! ### Calls -/
theorem y_callv {f : FuncId} [T : FnOk P f] {xs : Array Operand} {ts : Array TypeId} {vs : List Value} (hcall : c = true → ∀ w, KOk w0 K w → Calls P f vs.toArray w (Ret (fun _ : Unit => v) (fun _ => []) w)) (hx : Opds N F c xs.toList vs) :
    Y P N w0 K F c ⟨dd, .call { callee := .value (.func f), args := xs, argTypes := ts }, ty, pos, af, gd⟩ v := by
  obtain ⟨fn, hf, hb, hn⟩ := T.ok
  exact y_call hf hb hn hx (fun hc w hw => (hcall hc w hw).mono fun e w' ⟨_, he, hk⟩ => ⟨he, hk.below⟩)
theorem hcv {f : FuncId} [T : FnOk P f] {xs : Array Operand} {ts : Array TypeId} {vs : List Value} (hcall : ∀ w, KOk w0 K w → Calls P f vs.toArray w (Ret (fun _ : Unit => v) (fun _ => []) w)) (hr : HL P N w0 ops Q rest ((d, .pl v) :: F) K) (hN : d < N := by decide) (hx : Opds N F true xs.toList vs := by repeat (first | exact Opds.nil | refine Opds.cons (by first | exact Opd.pl rfl | exact Opd.gd rfl (fun h => h) | exact Opd.gd rfl (by simp; done)) ?_)) :
    HL P N w0 ops Q (⟨some d, .call { callee := .value (.func f), args := xs, argTypes := ts }, ty, pos, af, none⟩ :: rest) F K := hl_q rfl rfl hN (y_callv (fun _ => hcall) hx) hr
theorem hcvg {f : FuncId} [T : FnOk P f] {xs : Array Operand} {ts : Array TypeId} {vs : List Value} {j : Nat} {want : Bool} (hcall : c = true → ∀ w, KOk w0 K w → Calls P f vs.toArray w (Ret (fun _ : Unit => v) (fun _ => []) w)) (hr : HL P N w0 ops Q rest ((d, .gd c v) :: F) K) (hN : d < N := by decide) (hG : GV N F ops j want c := by first | exact GV.pt rfl rfl | exact GV.pf rfl rfl | exact GV.gt rfl rfl | exact GV.gf rfl rfl) (hx : Opds N F c xs.toList vs := by repeat (first | exact Opds.nil | refine Opds.cons (by first | exact Opd.pl rfl | exact Opd.gd rfl (fun h => h) | exact Opd.gd rfl (by simp; done)) ?_)) :
    HL P N w0 ops Q (⟨some d, .call { callee := .value (.func f), args := xs, argTypes := ts }, ty, pos, af, some (j, want)⟩ :: rest) F K := hl_g rfl hG rfl hN (y_callv hcall hx) hr
theorem qcv {f : FuncId} [T : FnOk P f] {xs : Array Operand} {ts : Array TypeId} {vs : List Value} (hcall : ∀ w, KOk w0 K w → Calls P f vs.toArray w (Ret (fun _ : Unit => v) (fun _ => []) w)) (hr : HQ P N w0 K ops Q rest ((d, .pl v) :: F)) (hN : d < N := by decide) (hx : Opds N F true xs.toList vs := by repeat (first | exact Opds.nil | refine Opds.cons (by first | exact Opd.pl rfl | exact Opd.gd rfl (fun h => h) | exact Opd.gd rfl (by simp; done)) ?_)) :
    HQ P N w0 K ops Q (⟨some d, .call { callee := .value (.func f), args := xs, argTypes := ts }, ty, pos, af, none⟩ :: rest) F := hq_q rfl rfl hN (y_callv (fun _ => hcall) hx) hr
theorem qcvg {f : FuncId} [T : FnOk P f] {xs : Array Operand} {ts : Array TypeId} {vs : List Value} {j : Nat} {want : Bool} (hcall : c = true → ∀ w, KOk w0 K w → Calls P f vs.toArray w (Ret (fun _ : Unit => v) (fun _ => []) w)) (hr : HQ P N w0 K ops Q rest ((d, .gd c v) :: F)) (hN : d < N := by decide) (hG : GV N F ops j want c := by first | exact GV.pt rfl rfl | exact GV.pf rfl rfl | exact GV.gt rfl rfl | exact GV.gf rfl rfl) (hx : Opds N F c xs.toList vs := by repeat (first | exact Opds.nil | refine Opds.cons (by first | exact Opd.pl rfl | exact Opd.gd rfl (fun h => h) | exact Opd.gd rfl (by simp; done)) ?_)) :
    HQ P N w0 K ops Q (⟨some d, .call { callee := .value (.func f), args := xs, argTypes := ts }, ty, pos, af, some (j, want)⟩ :: rest) F := hq_g rfl hG rfl hN (y_callv hcall hx) hr
/-- A call that hands back new memory. -/
theorem oc {α : Type} {val : α → Value} {Kr : α → List Ck} {f : FuncId} [T : FnOk P f] {xs : Array Operand} {ts : Array TypeId} {vs : List Value} (hcall : ∀ w, KOk w0 K w → Calls P f vs.toArray w (Ret val Kr w)) (hr : ∀ z, At N w0 Kn ((d, .pl (val z)) :: F) (Kr z ++ K)) (hN : d < N := by decide) (hx : Opds N F true xs.toList vs := by repeat (first | exact Opds.nil | refine Opds.cons (by first | exact Opd.pl rfl | exact Opd.gd rfl (fun h => h) | exact Opd.gd rfl (by simp; done)) ?_)) :
    HO P N w0 Q ⟨some d, .call { callee := .value (.func f), args := xs, argTypes := ts }, ty, pos, af, none⟩ Kn F K := by
  obtain ⟨fn, hf, hb, hn⟩ := T.ok
  exact ho_call hf hb hn hN hx hcall hr
theorem hc' {α : Type} {val : α → Value} {Kr : α → List Ck} {f : FuncId} [T : FnOk P f] {xs : Array Operand} {ts : Array TypeId} {vs : List Value} (hcall : ∀ w, KOk w0 K w → Calls P f vs.toArray w (Ret val Kr w)) (hr : ∀ z, HL P N w0 ops Q rest ((d, .pl (val z)) :: F) (Kr z ++ K)) (hN : d < N := by decide) (hx : Opds N F true xs.toList vs := by repeat (first | exact Opds.nil | refine Opds.cons (by first | exact Opd.pl rfl | exact Opd.gd rfl (fun h => h) | exact Opd.gd rfl (by simp; done)) ?_)) :
    HL P N w0 ops Q (⟨some d, .call { callee := .value (.func f), args := xs, argTypes := ts }, ty, pos, af, none⟩ :: rest) F K := hl_o rfl (oc hcall hr hN hx)

/-! ### Memory -/
theorem ob {cs : List Value} (hr : ∀ g, At N w0 Kn ((d, .pl (.pointer (some ⟨g, 0, none⟩))) :: F) (.box g t cs :: K)) (hN : d < N := by decide) (hx : Opd N F true x v := by exact Opd.pl rfl) (hc : v.cells = cs.toArray := by rfl) : HO P N w0 Q ⟨some d, .box t x, ty, pos, af, none⟩ Kn F K := ho_box hN hx hc hr
theorem hb {cs : List Value} (hr : ∀ g, HL P N w0 ops Q rest ((d, .pl (.pointer (some ⟨g, 0, none⟩))) :: F) (.box g t cs :: K)) (hN : d < N := by decide) (hx : Opd N F true x v := by exact Opd.pl rfl) (hc : v.cells = cs.toArray := by rfl) : HL P N w0 ops Q (⟨some d, .box t x, ty, pos, af, none⟩ :: rest) F K := hl_o rfl (ho_box hN hx hc hr)
theorem oa {zs : List Value} [T : TZero P t zs] (hr : ∀ g, At N w0 Kn ((d, .pl (.pointer (some ⟨g, 0, none⟩))) :: F) (.box g t zs :: K)) (hN : d < N := by decide) : HO P N w0 Q ⟨some d, .alloc t, ty, pos, af, none⟩ Kn F K := ho_alloc hN hr
theorem ha {zs : List Value} [T : TZero P t zs] (hr : ∀ g, HL P N w0 ops Q rest ((d, .pl (.pointer (some ⟨g, 0, none⟩))) :: F) (.box g t zs :: K)) (hN : d < N := by decide) : HL P N w0 ops Q (⟨some d, .alloc t, ty, pos, af, none⟩ :: rest) F K := hl_o rfl (ho_alloc hN hr)
theorem os {t0 : TypeId} {vs cs cs' : List Value} {g i n : Nat} [T : TSize P t n] (hr : At N w0 Kn F (.box g t0 cs' :: K')) (hx : Opd N F true x (.pointer (some ⟨g, i, none⟩)) := by exact Opd.pl rfl) (hy : Opd N F true y v := by exact Opd.pl rfl) (hv : v.cells = vs.toArray := by rfl) (hn : vs.length = n := by rfl) (hp : Pick K (.box g t0 cs) K' := by repeat (first | exact Pick.here _ _ | apply Pick.there)) (hs : SetN cs i vs cs' := by repeat (first | exact SetN.nil _ | apply SetN.here | apply SetN.there)) (h1 : ∀ u ∈ vs, u.oneCell' = true := by first | exact List.all_eq_true.1 rfl | (intro u hu; simp only [List.mem_cons, List.not_mem_nil, or_false] at hu; rcases hu with rfl | hu <;> first | rfl | assumption | (rcases hu with rfl | hu <;> first | rfl | assumption | (rcases hu with rfl | hu <;> first | rfl | assumption | (rcases hu with rfl | hu <;> first | rfl | assumption | (rcases hu with rfl | hu <;> first | rfl | assumption | skip))))) | (simp [Value.oneCell', *])) : HO P N w0 Q ⟨none, .store t x y, ty, pos, af, none⟩ Kn F K := ho_store_box hx hy hv hn h1 hp hs hr
theorem hs {t0 : TypeId} {vs cs cs' : List Value} {g i n : Nat} [T : TSize P t n] (hr : HL P N w0 ops Q rest F (.box g t0 cs' :: K')) (hx : Opd N F true x (.pointer (some ⟨g, i, none⟩)) := by exact Opd.pl rfl) (hy : Opd N F true y v := by exact Opd.pl rfl) (hv : v.cells = vs.toArray := by rfl) (hn : vs.length = n := by rfl) (hp : Pick K (.box g t0 cs) K' := by repeat (first | exact Pick.here _ _ | apply Pick.there)) (hs : SetN cs i vs cs' := by repeat (first | exact SetN.nil _ | apply SetN.here | apply SetN.there)) (h1 : ∀ u ∈ vs, u.oneCell' = true := by first | exact List.all_eq_true.1 rfl | (intro u hu; simp only [List.mem_cons, List.not_mem_nil, or_false] at hu; rcases hu with rfl | hu <;> first | rfl | assumption | (rcases hu with rfl | hu <;> first | rfl | assumption | (rcases hu with rfl | hu <;> first | rfl | assumption | (rcases hu with rfl | hu <;> first | rfl | assumption | (rcases hu with rfl | hu <;> first | rfl | assumption | skip))))) | (simp [Value.oneCell', *])) : HL P N w0 ops Q (⟨none, .store t x y, ty, pos, af, none⟩ :: rest) F K := hl_o rfl (ho_store_box hx hy hv hn h1 hp hs hr)

/-! ### Code -/
theorem cc {q : Operand} {a b : Code} {p : Bool} (ht : p = true → HC P N w0 a Q F K) (hf : p = false → HC P N w0 b Q F K) (hq : Opd N F true q (.bool p) := by exact Opd.pl rfl) : HC P N w0 (.cond q a b) Q F K := hc_cond hq ht hf
theorem ccd {q : Operand} {a b : Code} {p : Prop} [Decidable p] (ht : p → HC P N w0 a Q F K) (hf : ¬p → HC P N w0 b Q F K) (hq : Opd N F true q (.bool (decide p)) := by exact Opd.pl rfl) : HC P N w0 (.cond q a b) Q F K := hc_cond hq (fun h => ht (of_decide_eq_true h)) (fun h => hf (of_decide_eq_false h))
theorem ccn {q : Operand} {a b : Code} {p : Prop} [Decidable p] (ht : ¬p → HC P N w0 a Q F K) (hf : p → HC P N w0 b Q F K) (hq : Opd N F true q (.bool (!decide p)) := by exact Opd.pl rfl) : HC P N w0 (.cond q a b) Q F K := hc_cond hq (fun h => ht (by simpa using h)) (fun h => hf (by simpa using h))
theorem ccnb {q : Operand} {a b : Code} {p : Bool} (ht : p = false → HC P N w0 a Q F K) (hf : p = true → HC P N w0 b Q F K) (hq : Opd N F true q (.bool (!p)) := by exact Opd.pl rfl) : HC P N w0 (.cond q a b) Q F K := hc_cond hq (fun h => ht (by simpa using h)) (fun h => hf (by simpa using h))
theorem ccdt {q : Operand} {a b : Code} {p : Prop} [Decidable p] (hq : Opd N F true q (.bool (decide p))) (h : p) (ht : HC P N w0 a Q F K) : HC P N w0 (.cond q a b) Q F K := ccd (fun _ => ht) (fun h' => absurd h h') hq
theorem ccdf {q : Operand} {a b : Code} {p : Prop} [Decidable p] (hq : Opd N F true q (.bool (decide p))) (h : ¬p) (hf : HC P N w0 b Q F K) : HC P N w0 (.cond q a b) Q F K := ccd (fun h' => absurd h' h) (fun _ => hf) hq
theorem ccnt {q : Operand} {a b : Code} {p : Prop} [Decidable p] (hq : Opd N F true q (.bool (!decide p))) (h : ¬p) (ht : HC P N w0 a Q F K) : HC P N w0 (.cond q a b) Q F K := ccn (fun _ => ht) (fun h' => absurd h' h) hq
theorem ccnf {q : Operand} {a b : Code} {p : Prop} [Decidable p] (hq : Opd N F true q (.bool (!decide p))) (h : p) (hf : HC P N w0 b Q F K) : HC P N w0 (.cond q a b) Q F K := ccn (fun h' => absurd h h') (fun _ => hf) hq
theorem ccbt {q : Operand} {a b : Code} {p : Bool} (hq : Opd N F true q (.bool p)) (h : p = true) (ht : HC P N w0 a Q F K) : HC P N w0 (.cond q a b) Q F K := cc (fun _ => ht) (fun h' => by rw [h] at h'; cases h') hq
theorem ccbf {q : Operand} {a b : Code} {p : Bool} (hq : Opd N F true q (.bool p)) (h : p = false) (hf : HC P N w0 b Q F K) : HC P N w0 (.cond q a b) Q F K := cc (fun h' => by rw [h] at h'; cases h') (fun _ => hf) hq
theorem ccnbt {q : Operand} {a b : Code} {p : Bool} (hq : Opd N F true q (.bool (!p))) (h : p = false) (ht : HC P N w0 a Q F K) : HC P N w0 (.cond q a b) Q F K := ccbt hq (by rw [h]; rfl) ht
theorem ccnbf {q : Operand} {a b : Code} {p : Bool} (hq : Opd N F true q (.bool (!p))) (h : p = true) (hf : HC P N w0 b Q F K) : HC P N w0 (.cond q a b) Q F K := ccbf hq (by rw [h]; rfl) hf
/-- The answer is one value without memory. -/
theorem ret0 {fn : Func} {t : Nat} {v' : Value} (hv : v = v' := by rfl) (hr : fn.results.toList = [.tmp t] := by rfl) (h : ev F (.tmp t) = some v := by rfl) : At N w0 (bodyPost P fn (Ret (fun _ : Unit => v') (fun _ => []) w0) .ret) F K :=
  at_ret1 (by rw [hr]; exact RV.tmp h RV.nil) (fun w hw => Ret.mk () hv hw (KSub.nil _))
theorem RV.cellC {t n g i : Nat} {ty : TypeId} {us : List Value} {rs : List ResultVar} {vs : List Value} [T : TAgg P ty n] (h : ev F (.tmp t) = some (.pointer (some ⟨g, i, none⟩))) (hl : LdC w0 K true (.pointer (some ⟨g, i, none⟩)) n us) (hs : RV P N w0 F K rs vs) : RV P N w0 F K (.cell t ty :: rs) (.agg us.toArray :: vs) := RV.cell h hl.1 hl.2 hs
/-- One result, of whatever kind. -/
theorem ret1 {fn : Func} {α : Type} {val : α → Value} {Kr : α → List Ck} (x : α) (hv : v = val x := by rfl) (hK : KSub K (Kr x) := by repeat (first | exact KSub.nil _ | refine KSub.pick (by repeat (first | exact Pick.here _ _ | apply Pick.there)) ?_)) (h : RV P N w0 F K fn.results.toList [v] := by repeat (first | exact RV.nil | refine RV.tmp rfl ?_ | refine RV.cellC rfl (LdC.box (by repeat (first | exact List.Mem.head _ | apply List.Mem.tail)) (by repeat (first | exact SubC.nil _ | apply SubC.here | apply SubC.there))) ?_)) : At N w0 (bodyPost P fn (Ret val Kr w0) .ret) F K :=
  at_ret1 h (fun w hw => Ret.mk x hv hw hK)
/-- Several results. -/
theorem retn {fn : Func} {α : Type} {val : α → Value} {Kr : α → List Ck} {vs : List Value} (x : α) (hv : .tuple vs.toArray = val x := by rfl) (hn : vs.length ≠ 1 := by decide) (hK : KSub K (Kr x) := by repeat (first | exact KSub.nil _ | refine KSub.pick (by repeat (first | exact Pick.here _ _ | apply Pick.there)) ?_)) (h : RV P N w0 F K fn.results.toList vs := by repeat (first | exact RV.nil | refine RV.tmp rfl ?_ | refine RV.cellC rfl (LdC.box (by repeat (first | exact List.Mem.head _ | apply List.Mem.tail)) (by repeat (first | exact SubC.nil _ | apply SubC.here | apply SubC.there))) ?_)) : At N w0 (bodyPost P fn (Ret val Kr w0) .ret) F K :=
  at_retn h hn (fun w hw => Ret.mk x hv hw hK)
end
end E
end Go.Proofs.YtpiiapoafmnhhaaGreat
