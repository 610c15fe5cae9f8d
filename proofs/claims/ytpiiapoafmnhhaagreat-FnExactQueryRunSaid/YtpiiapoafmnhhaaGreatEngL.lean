/- The engine, third part: lists of operations, one behind the other; what makes or writes memory. -/
import Derived.Test.YtpiiapoafmnhhaaGreatEngY
import Derived.Maps.AppendAt
namespace Go.Proofs.YtpiiapoafmnhhaaGreat
namespace E
set_option linter.unusedSimpArgs false
set_option linter.unusedVariables false
open Go Go.RowKit

class TZero (P : Program) (t : TypeId) (zs : outParam (List Value)) : Prop where
  zero : ∀ w, ∃ v : Value, (zeroValue t).run P w = .ok v w ∧ v.cells = zs.toArray
class TRow (P : Program) (e : TypeId) (sz bytes : outParam Nat) : Prop where
  row : ∃ i z, P.info? e = some i ∧ i.zero = some z ∧ i.size = sz ∧ i.bytes = bytes ∧ z.cells.size = sz ∧ 0 < sz

/-- From every state in which F and K are known. -/
def At (N : Nat) (w0 : World) (R : Act → World → Prop) (F : List (Nat × En)) (K : List Ck) : Prop := ∀ a w, FrOk N F a → KOk w0 K w → R a w
/-- The operations l, one behind the other. -/
def HL (P : Program) (N : Nat) (w0 : World) (ops : Array Oper) (Q : Exit → Act → World → Prop) (l : List Oper) (F : List (Nat × En)) (K : List Ck) : Prop := At N w0 (wpList P ops Q l) F K

/-- What operation j has yielded: is it 'want'? -/
def GV (N : Nat) (F : List (Nat × En)) (ops : Array Oper) (j : Nat) (want c : Bool) : Prop := ∀ a, FrOk N F a → (yielded ops a.tmps j == some want) = c

section
variable {P : Program} {N : Nat} {w0 : World} {K K' : List Ck} {F : List (Nat × En)} {ops : Array Oper} {Q : Exit → Act → World → Prop} {rest : List Oper} {ty : TypeId} {pos : String} {af : Array Edge} {d : Nat}

theorem yielded_of {a : Act} {j dj : Nat} (h : (ops[j]?).bind (·.dst) = some dj) : yielded ops a.tmps j = match a.tmps.getD dj undef with | .bool b => some b | _ => none := by
  unfold yielded
  rw [h]
  simp only [Option.bind_some, Array.getD_eq_getD_getElem?]
  cases a.tmps[dj]? with
  | none => simp [undef]
  | some v => cases v <;> rfl

theorem GV.pt {j dj : Nat} {b : Bool} (h : (ops[j]?).bind (·.dst) = some dj) (hl : look F dj = some (.pl (.bool b))) : GV N F ops j true b := fun a ha => by
  rw [yielded_of h, ha.slot _ _ hl]; cases b <;> rfl
theorem GV.pf {j dj : Nat} {b : Bool} (h : (ops[j]?).bind (·.dst) = some dj) (hl : look F dj = some (.pl (.bool b))) : GV N F ops j false (!b) := fun a ha => by
  rw [yielded_of h, ha.slot _ _ hl]; cases b <;> rfl
theorem GV.gt {j dj : Nat} {b c : Bool} (h : (ops[j]?).bind (·.dst) = some dj) (hl : look F dj = some (.gd c (.bool b))) : GV N F ops j true (c && b) := fun a ha => by
  rw [yielded_of h, ha.slot _ _ hl]; cases b <;> cases c <;> rfl
theorem GV.gf {j dj : Nat} {b c : Bool} (h : (ops[j]?).bind (·.dst) = some dj) (hl : look F dj = some (.gd c (.bool b))) : GV N F ops j false (c && !b) := fun a ha => by
  rw [yielded_of h, ha.slot _ _ hl]; cases b <;> cases c <;> rfl

theorem hl_nil (h : At N w0 (Q .normal) F K) : HL P N w0 ops Q [] F K := h

theorem hl_q {o : Oper} {v : Value} (hg : o.guard = none) (hd : o.dst = some d) (hN : d < N) (hy : Y P N w0 K F true o v) (hr : HL P N w0 ops Q rest ((d, .pl v) :: F) K) : HL P N w0 ops Q (o :: rest) F K := fun a w ha hw => by
  unfold wpList
  rw [if_pos (by simp [Region.wanted, hg])]
  refine .inl (Oper.wp_of_quiet (C := KOk w0 K) (K := fun a' => ∀ w', KOk w0 K w' → wpList P ops Q rest a' w') hw (fun a w' hw' h => h w' hw') ⟨v, fun w hw => hy a w ha rfl hw, fun w' hw' => ?_⟩)
  rw [hd]
  exact hr _ _ (ha.put d (.pl v) v hN rfl) hw'
theorem hl_g {o : Oper} {v : Value} {j : Nat} {want c : Bool} (hg : o.guard = some (j, want)) (hG : GV N F ops j want c) (hd : o.dst = some d) (hN : d < N) (hy : Y P N w0 K F c o v) (hr : HL P N w0 ops Q rest ((d, .gd c v) :: F) K) : HL P N w0 ops Q (o :: rest) F K := fun a w ha hw => by
  have hwant : Region.wanted o (yielded ops a.tmps) = c := by simp only [Region.wanted, hg]; exact hG a ha
  unfold wpList
  rw [hwant]
  cases c with
  | true =>
    rw [if_pos rfl]
    refine .inl (Oper.wp_of_quiet (C := KOk w0 K) (K := fun a' => ∀ w', KOk w0 K w' → wpList P ops Q rest a' w') hw (fun a w' hw' h => h w' hw') ⟨v, fun w hw => hy a w ha rfl hw, fun w' hw' => ?_⟩)
    rw [hd]
    exact hr _ _ (ha.put d (.gd true v) v hN rfl) hw'
  | false =>
    rw [if_neg (by simp)]
    rw [hd]
    exact hr _ _ (ha.put d (.gd false v) undef hN rfl) hw

theorem hl_v {o : Oper} {v : Value} (hg : o.guard = none) (hd : o.dst = some d) (hN : d < N) (hy : YV P N w0 K F true o v) (hr : HL P N w0 ops Q rest ((d, .pl v) :: F) K) : HL P N w0 ops Q (o :: rest) F K := hl_q hg hd hN hy.y hr
theorem hl_gv {o : Oper} {v : Value} {j : Nat} {want c : Bool} (hg : o.guard = some (j, want)) (hG : GV N F ops j want c) (hd : o.dst = some d) (hN : d < N) (hy : YV P N w0 K F c o v) (hr : HL P N w0 ops Q rest ((d, .gd c v) :: F) K) : HL P N w0 ops Q (o :: rest) F K := hl_g hg hG hd hN hy.y hr

/-- One operation that makes or writes memory; Kn is what follows. -/
def HO (P : Program) (N : Nat) (w0 : World) (Q : Exit → Act → World → Prop) (o : Oper) (Kn : Act → World → Prop) (F : List (Nat × En)) (K : List Ck) : Prop := At N w0 (fun a w => o.wp P a w Kn Q) F K
theorem hl_o {o : Oper} (hg : o.guard = none) (h : HO P N w0 Q o (wpList P ops Q rest) F K) : HL P N w0 ops Q (o :: rest) F K := fun a w ha hw => by
  unfold wpList
  rw [if_pos (by simp [Region.wanted, hg])]
  exact .inl (h a w ha hw)

variable {Kn : Act → World → Prop}
theorem ho_val {o : Oper} {a : Act} {w : World} (v : Value) (w' : World) (hrun : (execOp a.eval o).run P w = .ok (.value v) w') (h : Kn (a.put o.dst v) w') : o.wp P a w Kn Q := by
  unfold Oper.wp
  rw [hrun]
  exact h
theorem ho_skip {o : Oper} {a : Act} {w : World} (w' : World) (hrun : (execOp a.eval o).run P w = .ok .skip w') (h : Kn (a.put o.dst undef) w') : o.wp P a w Kn Q := by
  unfold Oper.wp
  rw [hrun]
  exact h

theorem Below.alloc' (w : World) (o : Obj) : Below w.heap.size w (w.alloc o) := (Below.refl _ _).alloc (Nat.le_refl _) o
theorem alloc_new (w : World) (o : Obj) : (w.alloc o).heap[w.heap.size]? = some o := heap_alloc_new w o

theorem ho_box {t : TypeId} {x : Operand} {v : Value} {cs : List Value} (hN : d < N) (hx : Opd N F true x v) (hv : v.cells = cs.toArray) (hr : ∀ g, At N w0 Kn ((d, .pl (.pointer (some ⟨g, 0, none⟩))) :: F) (.box g t cs :: K)) :
    HO P N w0 Q ⟨some d, .box t x, ty, pos, af, none⟩ Kn F K := fun a w ha hw => by
  refine ho_val (.pointer (some ⟨w.heap.size, 0, none⟩)) (w.alloc (.cells cs.toArray t)) ?_ ?_
  · simp [execOp, hx a ha rfl, Instr.box, newVar, newRow, hv]
  · exact hr w.heap.size _ _ (ha.put d (.pl _) _ hN rfl) (hw.push (Below.alloc' w _) (.box w.heap.size t cs) ⟨hw.below.size, alloc_new w _⟩ (fun g hg => by simp only [Ck.blk, Option.some.injEq] at hg; omega))
theorem ho_alloc {t : TypeId} {zs : List Value} [T : TZero P t zs] (hN : d < N) (hr : ∀ g, At N w0 Kn ((d, .pl (.pointer (some ⟨g, 0, none⟩))) :: F) (.box g t zs :: K)) :
    HO P N w0 Q ⟨some d, .alloc t, ty, pos, af, none⟩ Kn F K := fun a w ha hw => by
  refine ho_val (.pointer (some ⟨w.heap.size, 0, none⟩)) (w.alloc (.cells zs.toArray t)) ?_ ?_
  · obtain ⟨v, hz, hc⟩ := T.zero w
    simp [execOp, Instr.alloc, newVar, newRow, hz, hc]
  · exact hr w.heap.size _ _ (ha.put d (.pl _) _ hN rfl) (hw.push (Below.alloc' w _) (.box w.heap.size t zs) ⟨hw.below.size, alloc_new w _⟩ (fun g hg => by simp only [Ck.blk, Option.some.injEq] at hg; omega))

/-- In the list cs the cells from i on are turned to vs. -/
def setAt (cs : List Value) : Nat → List Value → List Value
  | _, [] => cs
  | i, v :: vs => setAt (cs.set i v) (i + 1) vs
inductive SetN : List Value → Nat → List Value → List Value → Prop where
  | nil (cs : List Value) : SetN cs 0 [] cs
  | here (c v : Value) (cs cs' vs : List Value) (h : SetN cs 0 vs cs') : SetN (c :: cs) 0 (v :: vs) (v :: cs')
  | there (c : Value) (cs cs' vs : List Value) (i : Nat) (h : SetN cs i vs cs') : SetN (c :: cs) (i + 1) vs (c :: cs')
theorem setAt_cons (c : Value) : ∀ (vs cs : List Value) (i : Nat), setAt (c :: cs) (i + 1) vs = c :: setAt cs i vs
  | [], _, _ => rfl
  | v :: vs, cs, i => by simp only [setAt, List.set_cons_succ]; exact setAt_cons c vs _ _
theorem SetN.eq {cs vs cs' : List Value} {i : Nat} (h : SetN cs i vs cs') : setAt cs i vs = cs' := by
  induction h with
  | nil cs => rfl
  | here c v cs cs' vs _ ih => simp only [setAt, List.set_cons_zero]; rw [setAt_cons, ih]
  | there c cs cs' vs i _ ih => rw [setAt_cons, ih]
theorem SetN.fits {cs vs cs' : List Value} {i : Nat} (h : SetN cs i vs cs') : i + vs.length ≤ cs.length := by
  induction h with
  | nil cs => simp
  | here c v cs cs' vs _ ih => simp at ih ⊢; omega
  | there c cs cs' vs i _ ih => simp at ih ⊢; omega
theorem setAt_length : ∀ (vs cs : List Value) (i : Nat), (setAt cs i vs).length = cs.length
  | [], _, _ => rfl
  | v :: vs, cs, i => by simp only [setAt]; rw [setAt_length vs]; simp

/-- Cells stored one behind the other into one block. -/
theorem run_storeCells {g : Nat} {e : TypeId} : ∀ (vs : List Value) (w : World) (cs : List Value) (a : Addr) (i k : Nat), a.block = g → a.spot = none → w.heap[g]? = some (.cells cs.toArray e (0, 0)) → a.off + k + vs.length ≤ cs.length → (∀ u ∈ vs, u.oneCell' = true) → i = a.off + k →
    ∃ w', (storeCells a vs k).run P w = .ok () w' ∧ w.grownBy w' (some g) ∧ w'.heap[g]? = some (.cells (setAt cs i vs).toArray e (0, 0)) ∧ w'.heap.size = w.heap.size
  | [], w, cs, a, i, k, hb, hs, hh, hf, h1, hi => ⟨w, by simp [storeCells], World.grownBy.refl w _, by simpa [setAt] using hh, rfl⟩
  | v :: vs, w, cs, a, i, k, hb, hs, hh, hf, h1, hi => by
    subst hi
    simp only [List.length_cons] at hf
    have hadd : (a.add k).block = g ∧ (a.add k).off = a.off + k ∧ (a.add k).spot = none := by
      unfold Addr.add; split <;> simp_all
    have hc : w.cell? (a.add k) = some (cs[a.off + k]'(by omega)) := by
      unfold World.cell?
      rw [hadd.1, hh]
      simp [hadd.2.1, hadd.2.2, show a.off + k < cs.length by omega]
    have hfz : w.frozen? (a.add k) = false := by
      unfold World.frozen?
      rw [hadd.1, hh]
      simp
    have hst := run_store P w (a.add k) v .plain (h1 v List.mem_cons_self)
    rw [hc, hfz] at hst
    simp only [Bool.false_eq_true, if_false] at hst
    have hset : (w.setCell (a.add k) v).heap[g]? = some (.cells (cs.set (a.off + k) v).toArray e (0, 0)) := by
      unfold World.setCell
      rw [hadd.1]
      simp only [Array.getElem?_modify, if_true, hh, Option.map_some]
      simp [hadd.2.1, hadd.2.2]
    obtain ⟨w', hr, hg, hw, hz⟩ := run_storeCells vs (w.setCell (a.add k) v) (cs.set (a.off + k) v) a (a.off + (k + 1)) (k + 1) hb hs hset (by simp; omega) (fun u hu => h1 u (List.mem_cons_of_mem _ hu)) rfl
    have hg0 : w.grownBy (w.setCell (a.add k) v) (some g) := ⟨rfl, rfl, rfl, by simp [World.setCell], fun j hj hne => by
      refine Below.heap_setCell _ _ _ _ (fun e => hne ?_)
      rw [e, hadd.1]⟩
    refine ⟨w', ?_, ⟨hg.os.trans hg0.os, hg.tape.trans hg0.tape, hg.output.trans hg0.output, Nat.le_trans hg0.size hg.size, fun j hj hne => ?_⟩, ?_, by rw [hz]; simp [World.setCell]⟩
    · simp only [storeCells, Sem.run_bind, hst, Result.andThen_ok, hr]
    · rw [hg.block j (by simpa [World.setCell] using hj) hne, hg0.block j hj hne]
    · simpa [setAt, Nat.add_assoc] using hw

theorem KOk.turn_box {w w' : World} {g : Nat} {t : TypeId} {cs cs' : List Value} (h : KOk w0 (.box g t cs :: K) w) (hg : w.grownBy w' (some g)) (hh : w'.heap[g]? = some (.cells cs'.toArray t (0, 0))) : KOk w0 (.box g t cs' :: K) w' :=
  h.turn rfl hg ⟨(h.holds _ List.mem_cons_self).1, hh⟩ (Or.inl rfl)

theorem ho_store_box {t t0 : TypeId} {x y : Operand} {v : Value} {vs cs cs' : List Value} {g i n : Nat} [T : TSize P t n] (hx : Opd N F true x (.pointer (some ⟨g, i, none⟩))) (hy : Opd N F true y v) (hv : v.cells = vs.toArray) (hn : vs.length = n) (h1 : ∀ u ∈ vs, u.oneCell' = true)
    (hp : Pick K (.box g t0 cs) K') (hs : SetN cs i vs cs') (hr : At N w0 Kn F (.box g t0 cs' :: K')) : HO P N w0 Q ⟨none, .store t x y, ty, pos, af, none⟩ Kn F K := fun a w ha hw => by
  have hw' := hw.pick hp
  obtain ⟨w1, hrun, hg, hh, hz⟩ := run_storeCells (P := P) vs w cs ⟨g, i, none⟩ i 0 rfl rfl (hw'.holds _ List.mem_cons_self).2 (by simpa using hs.fits) h1 rfl
  rw [hs.eq] at hh
  refine ho_skip w1 ?_ (hr _ _ (ha.put_none _) (hw'.turn_box hg hh))
  simp [execOp, hx a ha rfl, hy a ha rfl, Instr.storeAt, Instr.sureAddr, storeVar, hv, T.size, hn, hrun]

theorem ownsRow_setAt {w' : World} {B : Nat} {e : TypeId} {sz n k g cap : Nat} {xs vs : List Value} {cur : Array Value} (h1 : xs.length = n * sz) (hnc : n ≤ cap) (hcm : cap ≤ maxLen) (hB : B ≤ g) (hcur : cur.size = cap * sz) (htk : cur.toList.take (n * sz) = xs) (hj : k + vs.length ≤ n * sz)
    (hh : w'.heap[g]? = some (.cells (setAt cur.toList k vs).toArray e (0, 0))) : w'.ownsRow B e sz (.slice (some ⟨g, 0, none⟩) n cap) n (setAt xs k vs) := by
  refine ⟨by rw [setAt_length]; exact h1, Or.inr ⟨g, cap, _, rfl, hB, hh, hnc, hcm, by simp [setAt_length, hcur], ?_⟩⟩
  subst htk
  simp only []
  have hgen : ∀ (vs cs : List Value) (k : Nat), k + vs.length ≤ n * sz → (setAt cs k vs).take (n * sz) = setAt (cs.take (n * sz)) k vs := by
    intro vs
    induction vs with
    | nil => intro cs k _; rfl
    | cons v vs ih =>
      intro cs k hk
      simp only [List.length_cons] at hk
      simp only [setAt]
      rw [ih _ _ (by omega), List.take_set]
  exact hgen vs cur.toList k hj

theorem ho_store_own {t e : TypeId} {x y : Operand} {v u : Value} {vs xs : List Value} {sz k j n m : Nat} [T : TSize P t m] (hx : Opd N F true x (eptr v sz k j)) (hy : Opd N F true y u) (hv : u.cells = vs.toArray) (hm : vs.length = m) (h1 : ∀ u ∈ vs, u.oneCell' = true)
    (hp : Pick K (.own v e sz n xs) K') (hk : k < n) (hj : j + m ≤ sz) (hr : At N w0 Kn F (.own v e sz n (setAt xs (k * sz + j) vs) :: K')) : HO P N w0 Q ⟨none, .store t x y, ty, pos, af, none⟩ Kn F K := fun a w ha hw => by
  have hw' := hw.pick hp
  have hown : w.ownsRow w0.heap.size e sz v n xs := hw'.holds _ List.mem_cons_self
  rcases hown.2 with ⟨_, rfl⟩ | ⟨g, cap, cur, rfl, hB, hh, hnc, hcm, hcur, htk⟩
  · omega
  · have hle : k * sz + j + vs.length ≤ n * sz := by
      have h2 : (k + 1) * sz ≤ n * sz := Nat.mul_le_mul_right _ hk
      rw [Nat.add_mul] at h2
      omega
    have hle2 : n * sz ≤ cap * sz := Nat.mul_le_mul_right _ hnc
    have hadr : (adr (.slice (some ⟨g, 0, none⟩) n cap)).add (k * sz + j) = ⟨g, k * sz + j, none⟩ := by
      show Addr.add ⟨g, 0, none⟩ (k * sz + j) = _
      unfold Addr.add; split <;> simp_all
    obtain ⟨w1, hrun, hg, hh1, hz⟩ := run_storeCells (P := P) vs w cur.toList ⟨g, k * sz + j, none⟩ (k * sz + j) 0 rfl rfl (by simpa using hh) (by simp [hcur]; omega) h1 rfl
    have hr' := hr (a.put none undef) w1 (ha.put_none _) (hw'.turn rfl hg (ownsRow_setAt (k := k * sz + j) hown.1 hnc hcm hB hcur htk hle hh1) (Or.inl rfl))
    refine ho_skip w1 ?_ hr'
    have hx' := hx a ha rfl
    unfold eptr at hx'
    rw [hadr] at hx'
    simp [execOp, hx', hy a ha rfl, Instr.storeAt, Instr.sureAddr, storeVar, hv, T.size, hm, hrun]

/-! ### append -/
/-- Where the cells to be appended come from. -/
def Src (w0 : World) (K : List Ck) (sz : Nat) (v : Value) (m : Nat) (cs : List Value) : Prop := ∀ w, KOk w0 K w → Rd w w.heap.size sz v m cs
theorem Src.rd {sz m : Nat} {v : Value} {cs : List Value} (h : Rd w0 w0.heap.size sz v m cs) : Src w0 K sz v m cs := fun _ hK => h.now hK
theorem Src.own {sz m : Nat} {e : TypeId} {v : Value} {cs : List Value} (h : .own v e sz m cs ∈ K) : Src w0 K sz v m cs := fun _ hK => Rd.of_own (hK.holds _ h)

theorem run_append_any (w : World) (base : Nat) (t ty e : TypeId) (sz bytes : Nat) (ht : P.underlying t = some (.slice e)) [T : TRow P e sz bytes] (v : Value) (n : Nat) (xs : List Value) (hown : w.ownsRow base e sz v n xs)
    (x : Value) (m : Nat) (news : List Value) (hr : Rd w w.heap.size sz x m news) (h1 : ∀ u ∈ news, u.oneCell' = true) (h63 : n + m ≤ maxLen) (hbytes : (n + m) * bytes ≤ 140737488355328) (hbase : base ≤ w.heap.size) :
    ∃ v' w', (Builtin.append_ #[t, t] ty #[v, x]).run P w = .ok v' w' ∧ w'.ownsRow base e sz v' (n + m) (xs ++ news) ∧ w.grownBy w' v.ownBlock ∧ (v'.ownBlock = v.ownBlock ∨ v'.ownBlock = some w.heap.size) := by
  obtain ⟨i, z, hi, hz, hs, hb, hzs, hpos⟩ := T.row
  obtain ⟨A, c, rfl, _, _, hA⟩ := hr.sl
  cases A with
  | none =>
    have hm : m = 0 := by
      rcases Nat.eq_zero_or_pos m with h0 | h0
      · exact h0
      · obtain ⟨a, h⟩ := hA h0; cases h
    subst hm
    have hnews : news = [] := List.eq_nil_of_length_eq_zero (by simpa using hr.len)
    subst hnews
    refine ⟨v, w, ?_, by simpa using hown, World.grownBy.refl w _, .inl rfl⟩
    rcases hown.2 with ⟨rfl, rfl⟩ | ⟨g, cap, cur, rfl, _, _, hnc, _⟩
    · simp [Builtin.append_, run_underlying ht, sizeOf, typeInfo, hi, Builtin.lenOf, Builtin.firstCells]
    · simp [Builtin.append_, run_underlying ht, sizeOf, typeInfo, hi, Builtin.lenOf, Builtin.firstCells, hnc, storeCells]
  | some ad =>
    obtain ⟨v', w', hrun, h2, h3, _, h5⟩ := run_append_own_at (P := P) w base t ty e i z sz bytes ht hi hz hs hb hzs hpos v n xs hown ad m c news hr.len hr.cell h1 h63 hbytes hbase
    exact ⟨v', w', hrun, h2, h3, h5⟩

theorem KOk.turn_own {w w' : World} {v v' : Value} {e : TypeId} {sz n n' : Nat} {xs xs' : List Value} (h : KOk w0 (.own v e sz n xs :: K) w) (hg : w.grownBy w' v.ownBlock) (hh : w'.ownsRow w0.heap.size e sz v' n' xs') (hb : v'.ownBlock = v.ownBlock ∨ v'.ownBlock = some w.heap.size) : KOk w0 (.own v' e sz n' xs' :: K) w' := by
  cases hv : v.ownBlock with
  | none =>
    rw [hv] at hg hb
    refine h.turn_nil ⟨hg.os, hg.tape, hg.output, hg.size, fun k hk => hg.block k hk (by simp)⟩ hh (fun g' hg' => ?_)
    simp only [Ck.blk] at hg'
    rcases hb with hb | hb
    · rw [hb] at hg'; cases hg'
    · rw [hb] at hg'; injection hg' with e; omega
  | some g =>
    rw [hv] at hg hb
    refine h.turn (g := g) (by simpa [Ck.blk] using hv) hg hh ?_
    rcases hb with hb | hb
    · exact Or.inl hb
    · refine Or.inr (fun g' hg' => ?_)
      simp only [Ck.blk] at hg'
      rw [hb] at hg'; injection hg' with e; omega

theorem own_one {w : World} {B : Nat} {v : Value} {e : TypeId} {sz n : Nat} {xs : List Value} (h : w.ownsRow B e sz v n xs) : v.oneCell' = true := by
  rcases h.2 with ⟨rfl, _⟩ | ⟨g, cap, cur, rfl, _⟩ <;> rfl

theorem ho_append {t t' e : TypeId} {x y : Operand} {v u : Value} {xs ys : List Value} {sz n m bytes : Nat} [T : TSlc P t e] [R : TRow P e sz bytes] (hN : d < N) (hx : Opd N F true x v) (hy : Opd N F true y u)
    (hp : Pick K (.own v e sz n xs) K') (hs : Src w0 K' sz u m ys) (h1 : ∀ u ∈ ys, u.oneCell' = true) (hb : (n + m) * bytes ≤ 140737488355328 ∧ n + m ≤ maxLen)
    (hr : ∀ v', v'.oneCell' = true → At N w0 Kn ((d, .pl v') :: F) (.own v' e sz (n + m) (xs ++ ys) :: K')) :
    HO P N w0 Q ⟨some d, .call { callee := .builtin .append, args := #[x, y], argTypes := #[t, t] }, ty, pos, af, none⟩ Kn F K := fun a w ha hw => by
  have hw' := hw.pick hp
  obtain ⟨v', w', hrun, h2, h3, h4⟩ := run_append_any (P := P) w w0.heap.size t ty e sz bytes T.is v n xs (hw'.holds _ List.mem_cons_self) u m ys (hs w hw'.drop) h1 hb.2 hb.1 hw.below.size
  refine ho_val v' w' ?_ (hr v' (own_one h2) _ _ (ha.put d (.pl v') v' hN rfl) (hw'.turn_own h3 h2 h4))
  simp [execOp, resolve, invoke, builtin, hx a ha rfl, hy a ha rfl, hrun]
theorem KOk.addnil {w : World} (h : KOk w0 K w) (e : TypeId) (sz : Nat) : KOk w0 (.own (.slice none 0 0) e sz 0 [] :: K) w :=
  h.push (Below.refl _ _) _ (World.ownsRow_nil w _ e sz) (fun g hg => by simp [Ck.blk, Value.ownBlock] at hg)
theorem hl_addnil (e : TypeId) (sz : Nat) {l : List Oper} (h : HL P N w0 ops Q l F (.own (.slice none 0 0) e sz 0 [] :: K)) : HL P N w0 ops Q l F K := fun a w ha hw => h a w ha (hw.addnil e sz)

/-- A slice that is written out. -/
theorem ho_bslice {t e : TypeId} {len sz : Nat} {parts : Array (Nat × Operand)} {vs : List (Nat × Value)} {cs : List Value} [T : TSlc P t e] (hN : d < N) (hx : ∀ a, FrOk N F a → (parts.map fun (i, x) => (i, a.eval x)) = vs.toArray)
    (hrun : ∀ w, ∃ v, (Instr.buildSlice t len vs.toArray).run P w = .ok v (w.alloc (.cells cs.toArray e)) ∧ v = .slice (some ⟨w.heap.size, 0, none⟩) len len) (hl : cs.length = len * sz) (hm : len ≤ maxLen)
    (hr : ∀ v', v'.oneCell' = true → At N w0 Kn ((d, .pl v') :: F) (.own v' e sz len cs :: K)) :
    HO P N w0 Q ⟨some d, .buildSlice t len parts, ty, pos, af, none⟩ Kn F K := fun a w ha hw => by
  obtain ⟨v, h1, rfl⟩ := hrun w
  refine ho_val _ _ ?_ (hr (.slice (some ⟨w.heap.size, 0, none⟩) len len) rfl _ _ (ha.put d (.pl (.slice (some ⟨w.heap.size, 0, none⟩) len len)) _ hN rfl) (hw.push (w' := w.alloc (.cells cs.toArray e)) (Below.alloc' w _) (.own (.slice (some ⟨w.heap.size, 0, none⟩) len len) e sz len cs) ?_ (fun g hg => by simp only [Ck.blk, Value.ownBlock, Option.some.injEq] at hg; omega)))
  · simp only [execOp, Sem.run_bind]
    rw [hx a ha]
    simp [h1, En.val]
  · exact ⟨hl, Or.inr ⟨w.heap.size, len, cs.toArray, rfl, hw.below.size, alloc_new w _, Nat.le_refl _, hm, by simp [hl], by simp [← hl]⟩⟩

/-! ### Calls -/
theorem run_call {a : Act} {w : World} {f : FuncId} {fn : Func} {xs : Array Operand} {ts : Array TypeId} {vs : List Value} {dd : Option Tmp} {gd : Option (Nat × Bool)} (hf : P.funcs[f]? = some fn) (hb : fn.body.isSome = true) (hn : fn.name ≠ "runtime.NumGoroutine") (h : xs.toList.map a.eval = vs) :
    (execOp a.eval ⟨dd, .call { callee := .value (.func f), args := xs, argTypes := ts }, ty, pos, af, gd⟩).run P w = .ok (.enter f vs.toArray) w := by
  have h1 : (xs.map a.eval) = vs.toArray := by
    apply Array.ext'
    simpa using h
  have hnone : fn.body ≠ none := by cases hB : fn.body <;> simp_all
  simp [execOp, resolve, Act.eval, Deferred.ofValue, invoke, callFunc, h1, hf, hn, hnone]

/-- What a call leaves: a value, and new chunks. -/
def Ret {α : Type} (val : α → Value) (Kr : α → List Ck) (w : World) (e : Ending) (w' : World) : Prop := ∃ x, e = .returned (val x) ∧ KOk w (Kr x) w'

theorem Ck.lower {B B' : Nat} {w : World} {k : Ck} (h : k.holds B w) (hB : B' ≤ B) : k.holds B' w := by
  cases k with
  | box g t cs => exact ⟨Nat.le_trans hB h.1, h.2⟩
  | own v e sz n xs =>
    refine ⟨h.1, ?_⟩
    rcases h.2 with h2 | ⟨g, cap, cur, hv, hg, r⟩
    · exact Or.inl h2
    · exact Or.inr ⟨g, cap, cur, hv, Nat.le_trans hB hg, r⟩
  | any g p => exact ⟨Nat.le_trans hB h.1, h.2⟩

theorem KOk.join {w w' : World} {Kr : List Ck} (h : KOk w0 K w) (hr : KOk w Kr w') : KOk w0 (Kr ++ K) w' := by
  have h' := h.ext hr.below
  refine ⟨h'.below, fun k hk => ?_, List.pairwise_append.2 ⟨hr.apart, h.apart, fun x hx y hy => ?_⟩⟩
  · rcases List.mem_append.1 hk with hk | hk
    · exact Ck.lower (hr.holds k hk) h.below.size
    · exact h'.holds k hk
  · cases hb : x.blk with
    | none => exact Or.inl hb
    | some g =>
      refine Or.inr ?_
      rw [hb]
      intro he
      have h1 := (Ck.lt (hr.holds x hx) g hb).1
      have h2 := (Ck.lt (h.holds y hy) g he.symm).2
      omega

theorem ho_call {α : Type} {val : α → Value} {Kr : α → List Ck} {f : FuncId} {fn : Func} {xs : Array Operand} {ts : Array TypeId} {vs : List Value} (hf : P.funcs[f]? = some fn) (hb : fn.body.isSome = true) (hn : fn.name ≠ "runtime.NumGoroutine") (hN : d < N)
    (hx : Opds N F true xs.toList vs) (hcall : ∀ w, KOk w0 K w → Calls P f vs.toArray w (Ret val Kr w)) (hr : ∀ x, At N w0 Kn ((d, .pl (val x)) :: F) (Kr x ++ K)) :
    HO P N w0 Q ⟨some d, .call { callee := .value (.func f), args := xs, argTypes := ts }, ty, pos, af, none⟩ Kn F K := fun a w ha hw => by
  unfold Oper.wp
  simp only []
  rw [run_call hf hb hn (hx a ha rfl)]
  refine (hcall w hw).mono fun e w' ⟨x, he, hk⟩ => ?_
  subst he
  exact hr x _ _ (ha.put d (.pl (val x)) _ hN rfl) (hw.join hk)
end
end E
end Go.Proofs.YtpiiapoafmnhhaaGreat
