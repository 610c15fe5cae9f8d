/- The engine, second edition, fifth part: copy, min, texts. -/
import Derived.Test.YtpiiapoafmnhhaaGreatM02
import Derived.Laws.BytesString
import Derived.Test.YtpiiapoafmnhhaaGreatTy
namespace Go.Proofs.YtpiiapoafmnhhaaGreat
namespace E
set_option linter.unusedSimpArgs false
set_option linter.unusedVariables false
open Go Go.RowKit
section
variable {P : Program} {N : Nat} {w0 : World} {K K' Kp : List Ck} {F F' : List (Nat × En)} {c : Bool} {Q : Exit → Act → World → Prop} {ops : Array Oper} {rest : List Oper} {d : Nat} {dd : Option Tmp} {ty : TypeId} {pos : String} {af : Array Edge} {gd : Option (Nat × Bool)}
variable {x y ix iy : Operand} {t t' : TypeId} {u v : Value} {o : Oper} {Kn : Act → World → Prop} {m m' : Md} {e : En} {gk : Bool} {i j : Int} {k : IntKind}
theorem a_min (hx : Opd N F c x (.int .i64 i) := by first | exact Opd.pl rfl | exact Opd.gd rfl (fun h => h)) (hy : Opd N F c y (.int .i64 j) := by first | exact Opd.pl rfl | exact Opd.gd rfl (fun h => h)) : YV P N w0 K F c ⟨dd, .call { callee := .builtin .min, args := #[x, y], argTypes := #[t, t'] }, ty, pos, af, gd⟩ (.int .i64 (if j < i then j else i)) := fun a w ha hc hw => by
  simp [execOp, resolve, invoke, builtin, hx a ha hc, hy a ha hc, Builtin.min_, Builtin.min2]
/-! ### copy -/
theorem ho_copy {α : Type} [Flat α] {el : TypeId} {xs ys : List α} {sz bytes : Nat} [T : TSlc P t el] [R : TRow P el sz bytes] (hsz : sz = Flat.k α) (hN : d < N) (hx : Opd N F true x v) (hy : Opd N F true y u)
    (hp : Pick K (ownF el v xs) K') (hs : RdIn w0 K' u ys) (hl : ys.length = xs.length)
    (hr : At N w0 Kn ((d, .pl (.int .i64 (ys.length : Int))) :: F) (ownF el v ys :: K')) :
    HO P N w0 Q ⟨some d, .call { callee := .builtin .copy, args := #[x, y], argTypes := #[t, t'] }, ty, pos, af, none⟩ Kn F K := fun a w ha hw => by
  have hw' := hw.pick hp
  have hown := hw'.holds _ List.mem_cons_self
  have hrd := hs w hw'.drop
  obtain ⟨i, z, hi, hz, hss, hb, hzs, hpos⟩ := R.row
  obtain ⟨A, cp, hu, h1, h2, hA⟩ := hrd.sl
  subst hu
  subst hsz
  have hcl := hrd.len
  have hmin : Nat.min ys.length xs.length = ys.length := by rw [hl]; exact Nat.min_self _
  have hfc : (Builtin.firstCells (Flat.k α) ys.length (.slice A ys.length cp)).run P w = .ok (cells ys).toArray w := by
    cases A with
    | none =>
      have h0 : ys.length = 0 := by
        rcases Nat.eq_zero_or_pos ys.length with h0 | h0
        · exact h0
        · obtain ⟨a, h⟩ := hA h0; cases h
      have : cells ys = [] := by
        apply List.eq_nil_of_length_eq_zero
        rw [cells_length, h0]; simp
      simp [Builtin.firstCells, this]
    | some a =>
      have h3 := run_loadCells_of (P := P) w a (cells ys) 0 #[] (fun j u hu => by rw [Nat.zero_add]; exact hrd.cell j u hu)
      rw [cells_length] at h3
      simp only [Builtin.firstCells, loadCells]
      simpa using h3
  unfold ownF at hown
  obtain ⟨hlen, hown⟩ := hown
  rcases hown with ⟨rfl, h0⟩ | ⟨g, cap, cur, rfl, hB, hh, hnc, hcm, hcur, htk⟩
  · have hy0 : ys.length = 0 := by omega
    have hys : ys = [] := List.eq_nil_of_length_eq_zero hy0
    have hxs : xs = [] := List.eq_nil_of_length_eq_zero h0
    subst hys; subst hxs
    refine ho_val (.int .i64 0) w ?_ (hr _ _ (ha.put d (.pl _) _ hN rfl) hw')
    have hfc' := hfc
    simp only [List.length_nil] at hfc'
    simp [execOp, resolve, invoke, builtin, hx a ha rfl, hy a ha rfl, Builtin.copy_, run_underlying T.is, Builtin.lenOf, sizeOf, typeInfo, hi, hss, hfc', goInt]
  · have hle2 : xs.length * Flat.k α ≤ cap * Flat.k α := Nat.mul_le_mul_right _ hnc
    have hcy : (cells ys).length = xs.length * Flat.k α := by rw [cells_length, hl]
    obtain ⟨w1, hrun, hg, hh1, hz1⟩ := run_storeCells (P := P) (cells ys) w cur.toList ⟨g, 0, none⟩ 0 0 rfl rfl (by simpa using hh) (by simp [hcur]; omega) (cells_one ys) rfl
    have hset : setAt (cells xs) 0 (cells ys) = cells ys := setAt_full _ _ (by rw [hcy, cells_length])
    have hK := hw'.turn (k' := ownF el (.slice (some ⟨g, 0, none⟩) xs.length cap) ys) (g := g) rfl hg (by
      have := ownsRow_setAt (k := 0) (vs := cells ys) hlen hnc hcm hB hcur htk (by omega) hh1
      rw [hset] at this
      unfold ownF
      rw [hl]
      exact this) (Or.inl rfl)
    refine ho_val (.int .i64 (ys.length : Int)) w1 ?_ (hr _ _ (ha.put d (.pl _) _ hN rfl) hK)
    simp [execOp, resolve, invoke, builtin, hx a ha rfl, hy a ha rfl, Builtin.copy_, run_underlying T.is, Builtin.lenOf, sizeOf, typeInfo, hi, hss, hmin, hfc, hrun, goInt]
/-- copy, all of a row of the call's own. -/
theorem cp {α : Type} [Flat α] {el : TypeId} {xs ys : List α} {sz bytes : Nat} [T : TSlc P t el] [R : TRow P el sz bytes] (hr : HG P N w0 ops Q m' rest ((d, .pl (.int .i64 (ys.length : Int))) :: F) (ownF el v ys :: K')) (hN : d < N := by decide) (hx : Opd N F true x v := by exact Opd.pl rfl) (hy : Opd N F true y u := by exact Opd.pl rfl) (hp : Pick K (ownF el v xs) K' := by exact pk) (hs : RdIn w0 K' u ys := by exact rdI) (hl : ys.length = xs.length := by first | rfl | simp | omega) (hsz : sz = Flat.k α := by rfl) (hX : NX m m' := by first | exact NX.l | exact NX.q | exact NX.x _ _ _ _ | exact NX.y _ _ _ _) (hA : KA ops m := by first | exact KA.l | exact KA.y | exact KA.x (by decide +kernel)) (hB : ∀ (_ : Unit), KB ops m (ownF el v ys :: K') := by first | exact fun _ => KB.l | exact fun _ => KB.x (Or.inr ks) | exact fun _ => KB.x (Or.inl (by decide +kernel)) | exact fun _ => KB.y (Or.inr ks) | exact fun _ => KB.y (Or.inl (by decide +kernel))) :
    HG P N w0 ops Q m (⟨some d, .call { callee := .builtin .copy, args := #[x, y], argTypes := #[t, t'] }, ty, pos, af, none⟩ :: rest) F K := hgo (Fi := fun _ : Unit => (d, .pl (.int .i64 (ys.length : Int))) :: F) (Ki := fun _ => ownF el v ys :: K') hA hB hX rfl (fun _ => hr) (fun Q' Kn hk => ho_copy hsz hN hx hy hp hs hl (hk ()))
/-- A drawn region: the own row v is turned, all other chunks stay. -/
theorem dxo [M : Mx P] (v : Value) {α : Type} [Flat α] {t0 : TypeId} {xs : List α} {i : Nat} {l l' : List Oper} (is : List Nat) (h : HG P N w0 l.toArray Q (.x (l.length - 1) Kp is) l' F K) (hp : Pick K (ownF t0 v xs) Kp := by exact pk) (hg : Gath l is l' := by (repeat (first | exact Gath.nil | (apply Gath.cons; rfl))); first | done | fail) (hn : is.Nodup := by decide) (hl : is.length = l.length := by rfl) (hb : (List.range l.length).all (fun j => inB is j) = true := by rfl) : HC P N w0 (.region i l.toArray true) Q F K := by
  refine hx_start (l.length - 1) Kp M.mx ?_
  have h' := h (by simpa using hg) hn
  have hl' : l'.length = l.length := by
    rw [← hl]
    clear h h' hn hl hb
    induction hg with
    | nil => rfl
    | cons _ _ ih => simp [ih]
  have hall : ∀ j, j < l.length → inB is j = true := fun j hj => List.all_eq_true.1 hb j (List.mem_range.2 hj)
  have e : lst l.toArray.size is = Array.replicate l.length false := by
    apply Array.ext
    · simp [lst]
    · intro j h1 h2
      have hj : j < l.length := by simpa [lst] using h1
      simp [lst, hall j hj]
  rw [e, hl'] at h'
  exact h'
/-- append to the beginning of a row of the call's own. -/
theorem apP {α : Type} [Flat α] {e : TypeId} {xs ys : List α} {sz bytes n : Nat} [T : TSlc P t e] [R : TRow P e sz bytes] (hx : Opd N F true x (pre v n) := by exact Opd.pl rfl) (hy : Opd N F true y u := by exact Opd.pl rfl) (hp : Pick K (ownF e v xs) K' := by exact pk) (hs : RdIn w0 K' u ys := by exact rdI) (hn : n ≤ xs.length := by omega) (hr : ∀ v', v'.oneCell' = true → HG P N w0 ops Q m' rest ((d, .pl v') :: F) (ownF e v' (xs.take n ++ ys) :: K')) (hN : d < N := by decide) (hb : (xs.length + ys.length) * bytes ≤ 140737488355328 ∧ xs.length + ys.length ≤ maxLen := by first | (simp only [maxLen]; omega) | (simp only [List.length_append, List.length_cons, List.length_nil, maxLen] at *; omega)) (hsz : sz = Flat.k α := by rfl) (hX : NX m m' := by first | exact NX.l | exact NX.q | exact NX.x _ _ _ _ | exact NX.y _ _ _ _) (hA : KA ops m := by first | exact KA.l | exact KA.y | exact KA.x (by decide +kernel)) (hB : ∀ (z : { v' : Value // v'.oneCell' = true }), KB ops m (ownF e z.1 (xs.take n ++ ys) :: K') := by first | exact fun _ => KB.l | exact fun _ => KB.x (Or.inr ks) | exact fun _ => KB.x (Or.inl (by decide +kernel)) | exact fun _ => KB.y (Or.inr ks) | exact fun _ => KB.y (Or.inl (by decide +kernel))) :
    HG P N w0 ops Q m (⟨some d, .call { callee := .builtin .append, args := #[x, y], argTypes := #[t, t] }, ty, pos, af, none⟩ :: rest) F K := hgo (Fi := fun z => (d, .pl z.1) :: F) (Ki := fun z : { v' : Value // v'.oneCell' = true } => ownF e z.1 (xs.take n ++ ys) :: K') hA hB hX rfl (fun z => hr z.1 z.2) (fun Q' Kn hk => by
  have hl : (xs.take n).length = n := by rw [List.length_take, Nat.min_eq_left hn]
  have hm : (xs.take n).length + ys.length ≤ xs.length + ys.length := by omega
  have hm2 : ((xs.take n).length + ys.length) * bytes ≤ (xs.length + ys.length) * bytes := Nat.mul_le_mul_right _ hm
  have h := ho_app (P := P) (Q := Q') (Kn := Kn) (t := t) (w0 := w0) (K := ownF e (pre v n) (xs.take n) :: K') (K' := K') (F := F) (ty := ty) (pos := pos) (af := af) (xs := xs.take n) (ys := ys) hsz hN hx hy (.here _ _) hs ⟨by omega, by omega⟩ (fun v' hv' => hk ⟨v', hv'⟩)
  exact fun a w ha hw => h a w ha ((hw.pick hp).pre hn))
/-- The box g is turned, all other chunks stay to the end. -/
theorem dxq [M : Mx P] (g : Nat) {t0 : TypeId} {cs : List Value} {i : Nat} {l l' : List Oper} (is : List Nat) (h : HG P N w0 l.toArray Q (.x (l.length) Kp is) l' F K) (hp : Pick K (.box g t0 cs) Kp := by exact pk) (hg : Gath l is l' := by (repeat (first | exact Gath.nil | (apply Gath.cons; rfl))); first | done | fail) (hn : is.Nodup := by decide) (hl : is.length = l.length := by rfl) (hb : (List.range l.length).all (fun j => inB is j) = true := by rfl) : HC P N w0 (.region i l.toArray true) Q F K := by
  refine hx_start (l.length) Kp M.mx ?_
  have h' := h (by simpa using hg) hn
  have hl' : l'.length = l.length := by
    rw [← hl]
    clear h h' hn hl hb
    induction hg with
    | nil => rfl
    | cons _ _ ih => simp [ih]
  have hall : ∀ j, j < l.length → inB is j = true := fun j hj => List.all_eq_true.1 hb j (List.mem_range.2 hj)
  have e : lst l.toArray.size is = Array.replicate l.length false := by
    apply Array.ext
    · simp [lst]
    · intro j h1 h2
      have hj : j < l.length := by simpa [lst] using h1
      simp [lst, hall j hj]
  rw [e, hl'] at h'
  exact h'
/-- Two boxes are turned. -/
theorem dxq2 [M : Mx P] (g g' : Nat) {t0 t1 : TypeId} {cs cs' : List Value} {K1 : List Ck} {i : Nat} {l l' : List Oper} (is : List Nat) (h : HG P N w0 l.toArray Q (.x (l.length) Kp is) l' F K) (hp : Pick K (.box g t0 cs) K1 := by exact pk) (hp' : Pick K1 (.box g' t1 cs') Kp := by exact pk) (hg : Gath l is l' := by (repeat (first | exact Gath.nil | (apply Gath.cons; rfl))); first | done | fail) (hn : is.Nodup := by decide) (hl : is.length = l.length := by rfl) (hb : (List.range l.length).all (fun j => inB is j) = true := by rfl) : HC P N w0 (.region i l.toArray true) Q F K := by
  refine hx_start (l.length) Kp M.mx ?_
  have h' := h (by simpa using hg) hn
  have hl' : l'.length = l.length := by
    rw [← hl]
    clear h h' hn hl hb
    induction hg with
    | nil => rfl
    | cons _ _ ih => simp [ih]
  have hall : ∀ j, j < l.length → inB is j = true := fun j hj => List.all_eq_true.1 hb j (List.mem_range.2 hj)
  have e : lst l.toArray.size is = Array.replicate l.length false := by
    apply Array.ext
    · simp [lst]
    · intro j h1 h2
      have hj : j < l.length := by simpa [lst] using h1
      simp [lst, hall j hj]
  rw [e, hl'] at h'
  exact h'
/-! ### Texts -/
theorem a_index_str {s : ByteArray} {b : UInt8} {kd : IntKind} [T : TStr P t] (h : Opd N F c x (.string s) := by first | exact Opd.pl rfl | exact Opd.gd rfl (fun h => h)) (hi : Opd N F c ix (.int kd i) := by first | exact Opd.pl rfl | exact Opd.gd rfl (fun h => h)) (hb : c = true → 0 ≤ i ∧ s[i.toNat]? = some b) : YV P N w0 K F c ⟨dd, .index t x ix, ty, pos, af, gd⟩ (.int .u8 (b.toNat : Int)) := fun a w ha hc hw => by
  obtain ⟨h0, h1⟩ := hb hc
  simp [execOp, h a ha hc, hi a ha hc, Instr.index, asIntOf, run_underlying T.is, h0, h1]
theorem a_cat {s r : ByteArray} [T : TStr P t] (hx : Opd N F c x (.string s) := by first | exact Opd.pl rfl | exact Opd.gd rfl (fun h => h)) (hy : Opd N F c y (.string r) := by first | exact Opd.pl rfl | exact Opd.gd rfl (fun h => h)) (hl : c = true → s.size + r.size < 9223372036854775808 := by first | exact (fun _ => by omega) | exact (fun _ => by simp only [ByteArray.size_append] at *; omega)) : YV P N w0 K F c ⟨dd, .binOp .add t x y t', ty, pos, af, gd⟩ (.string (s ++ r)) := fun a w ha hc hw => by
  have := hl hc
  have h2 : ¬ (((s.size + r.size : Nat) : Int) > IntKind.i64.max) := by
    have : IntKind.i64.max = 9223372036854775807 := rfl
    omega
  simp only [execOp, hx a ha hc, hy a ha hc, Sem.run_bind, eqGuard_str, Result.andThen_ok, binOp, Op.stringOp, h2, if_false, Sem.run_pure]
theorem toList_beq (s r : ByteArray) : (s.toList == r.toList) = decide (s = r) := by
  rw [ByteArray.toList_eq, ByteArray.toList_eq]
  by_cases h : s = r
  · subst h; simp
  · have : ¬ s.data.toList = r.data.toList := fun e => h (by
      cases s; cases r
      simp only [ByteArray.mk.injEq]
      exact Array.toList_inj.1 e)
    simp only [h, decide_false]
    exact beq_false_of_ne this
theorem a_eql_str {s r : ByteArray} [T : TStr P t] (hx : Opd N F c x (.string s) := by first | exact Opd.pl rfl | exact Opd.gd rfl (fun h => h)) (hy : Opd N F c y (.string r) := by first | exact Opd.pl rfl | exact Opd.gd rfl (fun h => h)) : YV P N w0 K F c ⟨dd, .binOp .eql t x y t', ty, pos, af, gd⟩ (.bool (decide (s = r))) := fun a w ha hc hw => by
  simp only [execOp, hx a ha hc, hy a ha hc, Sem.run_bind, eqGuard_str, Result.andThen_ok, binOp, Op.stringOp, toList_beq, Sem.run_pure]
theorem a_neq_str {s r : ByteArray} [T : TStr P t] (hx : Opd N F c x (.string s) := by first | exact Opd.pl rfl | exact Opd.gd rfl (fun h => h)) (hy : Opd N F c y (.string r) := by first | exact Opd.pl rfl | exact Opd.gd rfl (fun h => h)) : YV P N w0 K F c ⟨dd, .binOp .neq t x y t', ty, pos, af, gd⟩ (.bool (!decide (s = r))) := fun a w ha hc hw => by
  simp only [execOp, hx a ha hc, hy a ha hc, Sem.run_bind, eqGuard_str, Result.andThen_ok, binOp, Op.stringOp, toList_beq, Sem.run_pure]
/-- Bytes as a text. -/
def tx (l : List UInt8) : ByteArray := ⟨l.toArray⟩
theorem fold_push : ∀ (l : List UInt8) (r : ByteArray), (l.map (fun b => (b.toNat : Int))).foldl (fun r n => r.push (UInt8.ofNat n.toNat)) r = ⟨(r.data.toList ++ l).toArray⟩
  | [], r => by cases r; simp
  | b :: l, r => by
    simp only [List.map_cons, List.foldl_cons]
    rw [fold_push l]
    simp [ByteArray.push]
theorem cells_u8 (bs : List UInt8) : cells bs = (bs.map (fun b => (b.toNat : Int))).map (Value.int .u8) := by
  unfold cells
  induction bs with
  | nil => rfl
  | cons b bs ih => rw [List.flatMap_cons, ih]; rfl
theorem a_b2s {bs : List UInt8} {el : TypeId} [T : TSlc P t el] [E8 : TInt P el .u8] [S : TStr P t'] (h : Opd N F c x v := by first | exact Opd.pl rfl | exact Opd.gd rfl (fun h => h)) (hs : RdIn w0 K v bs := by exact rdI) : YV P N w0 K F c ⟨dd, .convert t t' x, ty, pos, af, gd⟩ (.string (tx bs)) := fun a w ha hc hw => by
  have hrd := hs w hw
  obtain ⟨A, cp, hv, h1, h2, hA⟩ := hrd.sl
  subst hv
  have hrun : (convert t t' (.slice A bs.length cp)).run P w = .ok (.string (tx bs)) w := by
    rw [run_convert_bytes_string w t t' el A bs.length cp T.is E8.is S.is]
    cases A with
    | none =>
      have h0 : bs.length = 0 := by
        rcases Nat.eq_zero_or_pos bs.length with h0 | h0
        · exact h0
        · obtain ⟨a, h⟩ := hA h0; cases h
      have : bs = [] := List.eq_nil_of_length_eq_zero h0
      subst this
      simp only [Conv.bytesToString, Sem.run_pure]
      rfl
    | some ad =>
      have hc8 := cells_u8 bs
      have h3 := run_loadCells_of (P := P) w ad (cells bs) 0 #[] (fun j u hu => by rw [Nat.zero_add]; exact hrd.cell j u hu)
      rw [cells_length] at h3
      have h4 : (loadCells ad bs.length).run P w = .ok ((bs.map (fun b => (b.toNat : Int))).map (Value.int .u8)).toArray w := by
        rw [← hc8]
        simp only [loadCells]
        have hk : Flat.k UInt8 = 1 := rfl
        rw [hk, Nat.mul_one] at h3
        simpa using h3
      rw [run_bytesToString w ad bs.length cp _ h4, fold_push]
      simp [tx]
  simp [execOp, h a ha hc, hrun]
theorem u8_wrap (z : Int) : IntKind.u8.wrap z = ((UInt8.ofInt z).toNat : Int) := by
  have h : IntKind.u8.wrap z = z % 256 := by unfold IntKind.wrap; rfl
  rw [h]
  have : (UInt8.ofInt z).toNat = (z % 256).toNat := by simp [UInt8.ofInt]; omega
  rw [this]
  omega
instance (z : Int) : MkI UInt8 [.int .u8 (IntKind.u8.wrap z)] (UInt8.ofInt z) := ⟨by rw [u8_wrap]; rfl⟩
theorem a_str_suf {s : ByteArray} {kd : IntKind} {n : Nat} [T : TStr P t] (h : Opd N F c x (.string s) := by first | exact Opd.pl rfl | exact Opd.gd rfl (fun h => h)) (hi : Opd N F c ix (.int kd i) := by first | exact Opd.pl rfl | exact Opd.gd rfl (fun h => h)) (hk : c = true → i = (n : Int) ∧ n ≤ s.size := by first | exact (fun _ => ⟨rfl, by omega⟩) | exact (fun _ => ⟨(Int.toNat_of_nonneg (by omega)).symm, by omega⟩)) : YV P N w0 K F c ⟨dd, .slice t x (some ix) none none, ty, pos, af, gd⟩ (.string (s.extract n s.size)) := fun a w ha hc hw => by
  obtain ⟨rfl, hl⟩ := hk hc
  simp [execOp, h a ha hc, hi a ha hc, Instr.sliceAt, Instr.slice, Instr.sliceBounds, Instr.sliceBound, asIntOf, run_underlying T.is, hl]
theorem a_str_pre {s : ByteArray} {kd : IntKind} {n : Nat} [T : TStr P t] (h : Opd N F c x (.string s) := by first | exact Opd.pl rfl | exact Opd.gd rfl (fun h => h)) (hi : Opd N F c ix (.int kd i) := by first | exact Opd.pl rfl | exact Opd.gd rfl (fun h => h)) (hk : c = true → i = (n : Int) ∧ n ≤ s.size := by first | exact (fun _ => ⟨rfl, by omega⟩) | exact (fun _ => ⟨(Int.toNat_of_nonneg (by omega)).symm, by omega⟩)) : YV P N w0 K F c ⟨dd, .slice t x none (some ix) none, ty, pos, af, gd⟩ (.string (s.extract 0 n)) := fun a w ha hc hw => by
  obtain ⟨rfl, hl⟩ := hk hc
  simp [execOp, h a ha hc, hi a ha hc, Instr.sliceAt, Instr.slice, Instr.sliceBounds, Instr.sliceBound, asIntOf, run_underlying T.is, hl]
/-! ### Values that are not known are cells of their own -/
theorem a_buildO {parts : Array (Nat × Operand)} {z cs : List Value} {lay : Array (Nat × Nat)} [T : TLay P t z lay] (h : Fill N F c lay z parts.toList cs := by (repeat (first | exact Fill.nil _ | (apply Fill.cons; (first | exact Opd.pl rfl | exact Opd.gd rfl (fun h => h)); (first | exact one_cells (by assumption) | rfl); rfl; rfl; (repeat (first | exact SetN.nil _ | apply SetN.here | apply SetN.there))))); first | done | fail) : YV P N w0 K F c ⟨dd, .build t parts, ty, pos, af, gd⟩ (.agg cs.toArray) := fun a w ha hc hw => by
  have h1 := h.run ha hc
  have e : (parts.map fun (p : Nat × Operand) => (p.1, a.eval p.2)).toList = parts.toList.map fun (p : Nat × Operand) => (p.1, a.eval p.2) := by simp
  have h2 := TLay.run (P := P) (t := t) (z := z) (lay := lay) (parts.map fun (p : Nat × Operand) => (p.1, a.eval p.2)) cs (by rw [e]; exact h1) w
  simp [execOp, h2]
theorem bxO {cs : List Value} (hr : ∀ g, HG P N w0 ops Q m' rest ((d, .pl (.pointer (some ⟨g, 0, none⟩))) :: F) (.box g t cs :: K)) (hN : d < N := by decide) (hx : Opd N F true x v := by exact Opd.pl rfl) (hc : v.cells = cs.toArray := by first | exact one_cells (by assumption) | rfl) (hX : NX m m' := by first | exact NX.l | exact NX.q | exact NX.x _ _ _ _ | exact NX.y _ _ _ _) (hA : KA ops m := by first | exact KA.l | exact KA.y | exact KA.x (by decide +kernel)) (hB : ∀ (g : Nat), KB ops m (.box g t cs :: K) := by first | exact fun _ => KB.l | exact fun _ => KB.x (Or.inr ks) | exact fun _ => KB.x (Or.inl (by decide +kernel)) | exact fun _ => KB.y (Or.inr ks) | exact fun _ => KB.y (Or.inl (by decide +kernel))) : HG P N w0 ops Q m (⟨some d, .box t x, ty, pos, af, none⟩ :: rest) F K := hgo (Fi := fun g : Nat => (d, .pl (.pointer (some ⟨g, 0, none⟩))) :: F) (Ki := fun g => .box g t cs :: K) hA hB hX rfl hr (fun Q' Kn hk => ob hk hN hx hc)
theorem sbO {t0 : TypeId} {vs cs cs' : List Value} {g i n : Nat} [T : TSize P t n] (hr : HG P N w0 ops Q m' rest F (.box g t0 cs' :: K')) (hx : Opd N F true x (.pointer (some ⟨g, i, none⟩)) := by exact Opd.pl rfl) (hy : Opd N F true y v := by exact Opd.pl rfl) (hv : v.cells = vs.toArray := by first | exact one_cells (by assumption) | rfl) (hn : vs.length = n := by rfl) (hp : Pick K (.box g t0 cs) K' := by exact pk) (hs : SetN cs i vs cs' := by (repeat (first | exact SetN.nil _ | apply SetN.here | apply SetN.there)); first | done | fail) (h1 : ∀ u ∈ vs, u.oneCell' = true := by exact one_all) (hX : NX m m' := by first | exact NX.l | exact NX.q | exact NX.x _ _ _ _ | exact NX.y _ _ _ _) (hA : KA ops m := by first | exact KA.l | exact KA.y | exact KA.x (by decide +kernel)) (hB : ∀ (_ : Unit), KB ops m (.box g t0 cs' :: K') := by first | exact fun _ => KB.l | exact fun _ => KB.x (Or.inr ks) | exact fun _ => KB.x (Or.inl (by decide +kernel)) | exact fun _ => KB.y (Or.inr ks) | exact fun _ => KB.y (Or.inl (by decide +kernel))) : HG P N w0 ops Q m (⟨none, .store t x y, ty, pos, af, none⟩ :: rest) F K := hgo (Fi := fun _ : Unit => F) (Ki := fun _ => .box g t0 cs' :: K') hA hB hX rfl (fun _ => hr) (fun Q' Kn hk => ho_store_box hx hy hv hn h1 hp hs (hk ()))
/-- Quiet operations on texts. -/
theorem q4 {Kq : List Ck} (hr : HG P N w0 ops Q m' rest ((d, e) :: F) K) (hd : o.dst = some d := by rfl) (hN : d < N := by decide) (hG : GE N F ops o.guard c gk := by first | exact GE.n | exact GE.s (by first | exact GV.pt rfl rfl | exact GV.pf rfl rfl | exact GV.gt rfl rfl | exact GV.gf rfl rfl)) (hX : NX m m' := by first | exact NX.l | exact NX.q | exact NX.x _ _ _ _ | exact NX.y _ _ _ _) (hQ : KQ ops K m Kq := by first | exact KQ.l | exact KQ.q | exact KQ.x (by decide +kernel) ks) (hy : YV P N w0 Kq F c o v := by first | exact a_cat | exact a_eql_str | exact a_neq_str | exact a_b2s | exact a_str_suf | exact a_str_pre | exact a_min | exact a_buildO) (he : IE gk c v e := by first | exact IE.n _ _ | exact IE.s _ _) : HG P N w0 ops Q m (o :: rest) F K := hgv hd hN hG hQ hX hy he hr
end
/-- A call that changes one chunk of the caller's; the others are named. -/
theorem ckq {P : Program} {N : Nat} {w0 : World} {K K' : List Ck} {F : List (Nat × En)} {Q : Exit → Act → World → Prop} {ops : Array Oper} {rest : List Oper} {d : Nat} {ty : TypeId} {pos : String} {af : Array Edge} {m m' : Md} {α : Type} {val : α → Value} {k0 : Ck} {Kr : α → List Ck} {f : FuncId} [T : FnOk P f] {xs : Array Operand} {ts : Array TypeId} {vs : List Value} (hN : d < N := by decide) (hx : Opds N F true xs.toList vs := by exact opx) (hp : Pick K k0 K' := by exact pk) (h : ∀ w, KOk w0 (k0 :: K') w → Calls P f vs.toArray w (RetK val Kr w0)) (k : ∀ z, HG P N w0 ops Q m' rest ((d, .pl (val z)) :: F) (Kr z)) (hX : NX m m' := by first | exact NX.l | exact NX.q | exact NX.x _ _ _ _ | exact NX.y _ _ _ _) (hA : KA ops m := by first | exact KA.l | exact KA.y | exact KA.x (by decide +kernel)) (hB : ∀ z, KB ops m (Kr z) := by first | exact fun _ => KB.l | exact fun _ => KB.x (Or.inr ks) | exact fun _ => KB.x (Or.inl (by decide +kernel)) | exact fun _ => KB.y (Or.inr ks) | exact fun _ => KB.y (Or.inl (by decide +kernel))) :
    HG P N w0 ops Q m (⟨some d, .call { callee := .value (.func f), args := xs, argTypes := ts }, ty, pos, af, none⟩ :: rest) F K := ck hN hx (fun w hw => h w (hw.pick hp)) k hX hA hB
theorem wx {α : Type} {p : α → Prop} {G : Prop} (h : ∃ x, p x) (k : ∀ x, p x → G) : G := by obtain ⟨x, hx⟩ := h; exact k x hx
theorem wy {a G : Prop} (h : a) (k : a → G) : G := k h
end E
end Go.Proofs.YtpiiapoafmnhhaaGreat
/- The engine, second edition, sixth part: where ways meet. -/
namespace Go.Proofs.YtpiiapoafmnhhaaGreat
namespace E
set_option linter.unusedSimpArgs false
set_option linter.unusedVariables false
open Go Go.RowKit
section
variable {P : Program} {N : Nat} {w0 : World} {K K' Kp : List Ck} {F F' : List (Nat × En)} {c : Bool} {Q : Exit → Act → World → Prop} {ops : Array Oper} {rest : List Oper} {d : Nat} {dd : Option Tmp} {ty : TypeId} {pos : String} {af : Array Edge} {gd : Option (Nat × Bool)}
variable {x y ix iy : Operand} {t t' : TypeId} {u v : Value} {o : Oper} {Kn : Act → World → Prop} {m m' : Md} {e : En} {gk : Bool} {i j : Int} {k : IntKind}
/-- Where the ways through a block meet. -/
theorem jb {α : Type} (i : Nat) {b y : Code} (I : α → Prop) (C : α → List (Nat × En)) (Kc : α → List Ck) (ks : List Nat) (L : List Ck) {F0 : List (Nat × En)} {K0 : List Ck} (hx : HC P N w0 (.block i b) (Exit.then (fun a w => ∃ z, I z ∧ FrOk N (C z ++ F0) a ∧ KOk w0 (Kc z ++ K0) w) Q) F (L ++ K0)) (hy : ∀ z, I z → HC P N w0 y Q (C z ++ F0) (Kc z ++ K0)) (hS : Strip ks F F0 := by exact stp) (hK : Spl K L K0 := by exact sp) : HC P N w0 (.block i b) (Exit.then (y.wp P Q) Q) F K := fun a w ha hw =>
  wp_mono (hx a w ha (hw.spl hK)) (fun e a w h => by
    cases e with
    | normal => obtain ⟨z, h1, h2, h3⟩ := h; exact hy z h1 a w h2 h3
    | _ => exact h)
end
end E
end Go.Proofs.YtpiiapoafmnhhaaGreat
/- A call that changes several chunks of the caller's. -/
namespace Go.Proofs.YtpiiapoafmnhhaaGreat
namespace E
open Go Go.RowKit
set_option linter.unusedSimpArgs false
set_option linter.unusedVariables false
set_option maxHeartbeats 1000000
set_option maxRecDepth 10000
attribute [local irreducible] HC HL HQ HX HO At Y YV Opd Opds KnX Sl Ld Src GV RV Calls Code.wp eptr adr RdF ownF OneX HG LdC
theorem ckl {P : Program} {N : Nat} {w0 : World} {K M : List Ck} {F : List (Nat × En)} {Q : Exit → Act → World → Prop} {ops : Array Oper} {rest : List Oper} {d : Nat} {ty : TypeId} {pos : String} {af : Array Edge} {m m' : Md} {α : Type} {val : α → Value} {Kr : α → List Ck} {f : FuncId} [T : FnOk P f] {xs : Array Operand} {ts : Array TypeId} {vs : List Value} (L : List Ck) (hN : d < N := by decide) (hx : Opds N F true xs.toList vs := by exact opx) (hp : Spl K L M := by exact sp) (h : ∀ w, KOk w0 (M ++ L) w → Calls P f vs.toArray w (RetK val Kr w0)) (k : ∀ z, HG P N w0 ops Q m' rest ((d, .pl (val z)) :: F) (Kr z)) (hX : NX m m' := by first | exact NX.l | exact NX.q | exact NX.x _ _ _ _ | exact NX.y _ _ _ _) (hA : KA ops m := by first | exact KA.l | exact KA.y | exact KA.x (by decide +kernel)) (hB : ∀ z, KB ops m (Kr z) := by first | exact fun _ => KB.l | exact fun _ => KB.x (Or.inr ks) | exact fun _ => KB.x (Or.inl (by decide +kernel)) | exact fun _ => KB.y (Or.inr ks) | exact fun _ => KB.y (Or.inl (by decide +kernel))) :
    HG P N w0 ops Q m (⟨some d, .call { callee := .value (.func f), args := xs, argTypes := ts }, ty, pos, af, none⟩ :: rest) F K := ck hN hx (fun w hw => h w (hw.perm (hp.perm.trans List.perm_append_comm))) k hX hA hB
end E
end Go.Proofs.YtpiiapoafmnhhaaGreat
/- Data: what the program's values stand for (written by a program of this repo: gen_data2.py). -/
namespace Go.Proofs.YtpiiapoafmnhhaaGreat
namespace E
open Go Go.RowKit
set_option linter.unusedSimpArgs false
set_option linter.unusedVariables false
set_option maxHeartbeats 1000000
set_option maxRecDepth 10000
attribute [local irreducible] HC HL HQ HX HO At Y YV Opd Opds KnX Sl Ld Src GV RV Calls Code.wp eptr adr RdF ownF OneX HG LdC
instance : Mx Tryz.prog := ⟨mixed⟩
instance : Flat Int := ⟨1, fun i => [.int .i64 i], fun _ => rfl, fun _ u h => by simp only [List.mem_cons, List.mem_nil_iff, or_false] at h; subst h; rfl⟩
instance : Mark Int := ⟨1, fun i => i⟩
instance (i : Int) : MkI Int [.int .i64 i] i := ⟨rfl⟩
instance : ElT Tryz.prog 3 Int := ⟨trivial⟩
instance : Flat Bool := ⟨1, fun i => [.bool i], fun _ => rfl, fun _ u h => by simp only [List.mem_cons, List.mem_nil_iff, or_false] at h; subst h; rfl⟩
instance (i : Bool) : MkI Bool [.bool i] i := ⟨rfl⟩
instance : Flat ByteArray := ⟨1, fun i => [.string i], fun _ => rfl, fun _ u h => by simp only [List.mem_cons, List.mem_nil_iff, or_false] at h; subst h; rfl⟩
instance (i : ByteArray) : MkI ByteArray [.string i] i := ⟨rfl⟩
structure Nd where
  l : Int
  n : Int
  deriving DecidableEq, Inhabited
instance : Flat E.Nd := ⟨2, fun x => [.int .i64 x.l, .int .i64 x.n], fun _ => rfl, fun _ u h => by simp only [List.mem_cons, List.mem_nil_iff, or_false] at h; (repeat' (rcases h with rfl | h)) <;> first | rfl | (subst h; rfl)⟩
instance : Mark E.Nd := ⟨2, fun i => ⟨i, i + 1⟩⟩
instance (a0 a1 : Int) : MkI E.Nd [.int .i64 a0, .int .i64 a1] ⟨a0, a1⟩ := ⟨rfl⟩
instance : ElT Tryz.prog 32 E.Nd := ⟨trivial⟩
structure Eg where
  l : Int
  a : E.Nd
  b : E.Nd
  deriving DecidableEq, Inhabited
instance : Flat E.Eg := ⟨5, fun x => [.int .i64 x.l, .int .i64 x.a.l, .int .i64 x.a.n, .int .i64 x.b.l, .int .i64 x.b.n], fun _ => rfl, fun _ u h => by simp only [List.mem_cons, List.mem_nil_iff, or_false] at h; (repeat' (rcases h with rfl | h)) <;> first | rfl | (subst h; rfl)⟩
instance : Mark E.Eg := ⟨5, fun i => ⟨i, ⟨i + 1, i + 2⟩, ⟨i + 3, i + 4⟩⟩⟩
instance (a0 a1 a2 a3 a4 : Int) : MkI E.Eg [.int .i64 a0, .int .i64 a1, .int .i64 a2, .int .i64 a3, .int .i64 a4] ⟨a0, ⟨a1, a2⟩, ⟨a3, a4⟩⟩ := ⟨rfl⟩
instance : ElT Tryz.prog 84 E.Eg := ⟨trivial⟩
structure Opn where
  k : Int
  n : E.Nd
  e : E.Eg
  deriving DecidableEq, Inhabited
instance : Flat E.Opn := ⟨8, fun x => [.int .i64 x.k, .int .i64 x.n.l, .int .i64 x.n.n, .int .i64 x.e.l, .int .i64 x.e.a.l, .int .i64 x.e.a.n, .int .i64 x.e.b.l, .int .i64 x.e.b.n], fun _ => rfl, fun _ u h => by simp only [List.mem_cons, List.mem_nil_iff, or_false] at h; (repeat' (rcases h with rfl | h)) <;> first | rfl | (subst h; rfl)⟩
instance : Mark E.Opn := ⟨8, fun i => ⟨i, ⟨i + 1, i + 2⟩, ⟨i + 3, ⟨i + 4, i + 5⟩, ⟨i + 6, i + 7⟩⟩⟩⟩
instance (a0 a1 a2 a3 a4 a5 a6 a7 : Int) : MkI E.Opn [.int .i64 a0, .int .i64 a1, .int .i64 a2, .int .i64 a3, .int .i64 a4, .int .i64 a5, .int .i64 a6, .int .i64 a7] ⟨a0, ⟨a1, a2⟩, ⟨a3, ⟨a4, a5⟩, ⟨a6, a7⟩⟩⟩ := ⟨rfl⟩
instance : ElT Tryz.prog 86 E.Opn := ⟨trivial⟩
structure Qu where
  k : Int
  n : E.Nd
  deriving DecidableEq, Inhabited
instance : Flat E.Qu := ⟨3, fun x => [.int .i64 x.k, .int .i64 x.n.l, .int .i64 x.n.n], fun _ => rfl, fun _ u h => by simp only [List.mem_cons, List.mem_nil_iff, or_false] at h; (repeat' (rcases h with rfl | h)) <;> first | rfl | (subst h; rfl)⟩
instance : Mark E.Qu := ⟨3, fun i => ⟨i, ⟨i + 1, i + 2⟩⟩⟩
instance (a0 a1 a2 : Int) : MkI E.Qu [.int .i64 a0, .int .i64 a1, .int .i64 a2] ⟨a0, ⟨a1, a2⟩⟩ := ⟨rfl⟩
instance : ElT Tryz.prog 34 E.Qu := ⟨trivial⟩
structure Pe where
  c : Int
  z : Int
  q : Int
  deriving DecidableEq, Inhabited
instance : Flat E.Pe := ⟨3, fun x => [.int .i64 x.c, .int .i64 x.z, .int .i64 x.q], fun _ => rfl, fun _ u h => by simp only [List.mem_cons, List.mem_nil_iff, or_false] at h; (repeat' (rcases h with rfl | h)) <;> first | rfl | (subst h; rfl)⟩
instance : Mark E.Pe := ⟨3, fun i => ⟨i, i + 1, i + 2⟩⟩
instance (a0 a1 a2 : Int) : MkI E.Pe [.int .i64 a0, .int .i64 a1, .int .i64 a2] ⟨a0, a1, a2⟩ := ⟨rfl⟩
structure Pg where
  l : Int
  a : Int
  deriving DecidableEq, Inhabited
instance : Flat E.Pg := ⟨2, fun x => [.int .i64 x.l, .int .i64 x.a], fun _ => rfl, fun _ u h => by simp only [List.mem_cons, List.mem_nil_iff, or_false] at h; (repeat' (rcases h with rfl | h)) <;> first | rfl | (subst h; rfl)⟩
instance : Mark E.Pg := ⟨2, fun i => ⟨i, i + 1⟩⟩
instance (a0 a1 : Int) : MkI E.Pg [.int .i64 a0, .int .i64 a1] ⟨a0, a1⟩ := ⟨rfl⟩
instance : ElT Tryz.prog 63 E.Pg := ⟨trivial⟩
structure Ev where
  k : Int
  w : Int
  o : E.Opn
  q : E.Qu
  deriving DecidableEq, Inhabited
instance : Flat E.Ev := ⟨13, fun x => [.int .i64 x.k, .int .i64 x.w, .int .i64 x.o.k, .int .i64 x.o.n.l, .int .i64 x.o.n.n, .int .i64 x.o.e.l, .int .i64 x.o.e.a.l, .int .i64 x.o.e.a.n, .int .i64 x.o.e.b.l, .int .i64 x.o.e.b.n, .int .i64 x.q.k, .int .i64 x.q.n.l, .int .i64 x.q.n.n], fun _ => rfl, fun _ u h => by simp only [List.mem_cons, List.mem_nil_iff, or_false] at h; (repeat' (rcases h with rfl | h)) <;> first | rfl | (subst h; rfl)⟩
instance : Mark E.Ev := ⟨13, fun i => ⟨i, i + 1, ⟨i + 2, ⟨i + 3, i + 4⟩, ⟨i + 5, ⟨i + 6, i + 7⟩, ⟨i + 8, i + 9⟩⟩⟩, ⟨i + 10, ⟨i + 11, i + 12⟩⟩⟩⟩
instance (a0 a1 a2 a3 a4 a5 a6 a7 a8 a9 a10 a11 a12 : Int) : MkI E.Ev [.int .i64 a0, .int .i64 a1, .int .i64 a2, .int .i64 a3, .int .i64 a4, .int .i64 a5, .int .i64 a6, .int .i64 a7, .int .i64 a8, .int .i64 a9, .int .i64 a10, .int .i64 a11, .int .i64 a12] ⟨a0, a1, ⟨a2, ⟨a3, a4⟩, ⟨a5, ⟨a6, a7⟩, ⟨a8, a9⟩⟩⟩, ⟨a10, ⟨a11, a12⟩⟩⟩ := ⟨rfl⟩
theorem eq_len {α : Type} [DecidableEq α] {xs ys : List α} (h : xs.length ≠ ys.length) : false = decide (xs = ys) := (decide_eq_false (fun e => h (by rw [e]))).symm
theorem eq_no {α : Type} [DecidableEq α] {xs ys : List α} {k : Nat} {x y : α} (hx : xs[k]? = some x) (hy : ys[k]? = some y) (h : x ≠ y) : false = decide (xs = ys) := (decide_eq_false (fun e => h (by subst e; rw [hx] at hy; injection hy))).symm
theorem eq_all {α : Type} [DecidableEq α] {xs ys : List α} {k : Nat} (h : xs.take k = ys.take k) (h1 : xs.length ≤ k) (h2 : ys.length ≤ k) : true = decide (xs = ys) := (decide_eq_true (by rwa [List.take_of_length_le h1, List.take_of_length_le h2] at h)).symm
theorem eq_st {α : Type} {xs ys : List α} {k : Nat} {x y : α} (h : xs.take k = ys.take k) (hx : xs[k]? = some x) (hy : ys[k]? = some y) (e : x = y) : xs.take (k + 1) = ys.take (k + 1) := by rw [List.take_add_one, List.take_add_one, h, hx, hy, e]
theorem get_lt {α : Type} {xs : List α} {k : Nat} (h : k < xs.length) : ∃ x, xs[k]? = some x := ⟨_, List.getElem?_eq_getElem h⟩
theorem c_toNode {a0 a1 : Int} (w : World) : Calls Tryz.prog 64 #[.agg #[.int .i64 a0, .int .i64 a1]] w (Ret (fun _ : Unit => .agg #[.int .i64 a0, .int .i64 a1]) (fun _ => []) w) := by
  refine enter (args := _) Tryz.func64 rfl Tryz.ntmps64 (by simp) ?_
  repeat' (first | refine E.st ?_ | refine E.q ?_ | refine E.qs ?_ | refine E.q2 ?_ | refine E.tr ?_ | refine E.ap (fun _ _ => ?_) | refine E.b1 (fun _ _ => ?_) | refine E.b0 (fun _ _ => ?_) | refine E.bsn (fun _ _ => ?_) | refine E.mk (fun _ _ => ?_) | refine E.bx (fun _ => ?_) | refine E.al (fun _ => ?_) | refine E.sb ?_ | refine E.dq ?_ | refine E.ct ?_ | refine E.cf ?_ | refine E.cs (fun hh => ?_) (fun hh => ?_) | refine E.at_block_other rfl ?_)
  exact r1 ()
theorem c_toQuery {a0 a1 a2 : Int} (w : World) : Calls Tryz.prog 17 #[.agg #[.int .i64 a0, .int .i64 a1, .int .i64 a2]] w (Ret (fun _ : Unit => .agg #[.int .i64 a0, .int .i64 a1, .int .i64 a2]) (fun _ => []) w) := by
  refine enter (args := _) Tryz.func17 rfl Tryz.ntmps17 (by simp) ?_
  repeat' (first | refine E.st ?_ | refine E.cl (h := fun _ w _ => c_toNode w) (k := ?_)  | refine E.q ?_ | refine E.qs ?_ | refine E.q2 ?_ | refine E.tr ?_ | refine E.ap (fun _ _ => ?_) | refine E.b1 (fun _ _ => ?_) | refine E.b0 (fun _ _ => ?_) | refine E.bsn (fun _ _ => ?_) | refine E.mk (fun _ _ => ?_) | refine E.bx (fun _ => ?_) | refine E.al (fun _ => ?_) | refine E.sb ?_ | refine E.dq ?_ | refine E.ct ?_ | refine E.cf ?_ | refine E.cs (fun hh => ?_) (fun hh => ?_) | refine E.at_block_other rfl ?_)
  exact r1 ()
theorem c_toPage {a0 a1 : Int} (w : World) : Calls Tryz.prog 157 #[.agg #[.int .i64 a0, .int .i64 a1]] w (Ret (fun _ : Unit => .agg #[.int .i64 a0, .int .i64 a1]) (fun _ => []) w) := by
  refine enter (args := _) Tryz.func157 rfl Tryz.ntmps157 (by simp) ?_
  repeat' (first | refine E.st ?_ | refine E.q ?_ | refine E.qs ?_ | refine E.q2 ?_ | refine E.tr ?_ | refine E.ap (fun _ _ => ?_) | refine E.b1 (fun _ _ => ?_) | refine E.b0 (fun _ _ => ?_) | refine E.bsn (fun _ _ => ?_) | refine E.mk (fun _ _ => ?_) | refine E.bx (fun _ => ?_) | refine E.al (fun _ => ?_) | refine E.sb ?_ | refine E.dq ?_ | refine E.ct ?_ | refine E.cf ?_ | refine E.cs (fun hh => ?_) (fun hh => ?_) | refine E.at_block_other rfl ?_)
  exact r1 ()
theorem c_eqPage {a0 a1 b0 b1 : Int} (w : World) : Calls Tryz.prog 66 #[.agg #[.int .i64 a0, .int .i64 a1], .agg #[.int .i64 b0, .int .i64 b1]] w (Ret (fun _ : Unit => .bool (decide ((⟨a0, a1⟩ : E.Pg) = ⟨b0, b1⟩))) (fun _ => []) w) := by
  refine enter (args := _) Tryz.func66 rfl Tryz.ntmps66 (by simp) ?_
  repeat' (first | refine E.st ?_ | refine E.q ?_ | refine E.qs ?_ | refine E.q2 ?_ | refine E.tr ?_ | refine E.ap (fun _ _ => ?_) | refine E.b1 (fun _ _ => ?_) | refine E.b0 (fun _ _ => ?_) | refine E.bsn (fun _ _ => ?_) | refine E.mk (fun _ _ => ?_) | refine E.bx (fun _ => ?_) | refine E.al (fun _ => ?_) | refine E.sb ?_ | refine E.dq ?_ | refine E.ct ?_ | refine E.cf ?_ | refine E.cs (fun hh => ?_) (fun hh => ?_) | refine E.at_block_other rfl ?_)
  all_goals (refine rb ?_; simp_all)
theorem c_eqIntS {v u : Value} {xs ys : List Int} (w : World) (hr : RdF w v xs := by exact rdA) (hq : RdF w u ys := by exact rdA) : Calls Tryz.prog 45 #[v, u] w (Ret (fun _ : Unit => .bool (decide (xs = ys))) (fun _ => []) w) := by
  have m1 := hr.le
  have m2 := hq.le
  simp only [maxLen] at m1 m2
  refine enter (args := _) Tryz.func45 rfl Tryz.ntmps45 (by simp) ?_
  repeat' (first | refine E.st ?_ | refine E.q ?_ | refine E.qs ?_ | refine E.q2 ?_ | refine E.tr ?_ | refine E.ap (fun _ _ => ?_) | refine E.b1 (fun _ _ => ?_) | refine E.b0 (fun _ _ => ?_) | refine E.bsn (fun _ _ => ?_) | refine E.mk (fun _ _ => ?_) | refine E.bx (fun _ => ?_) | refine E.al (fun _ => ?_) | refine E.sb ?_ | refine E.dq ?_ | refine E.ct ?_ | refine E.cf ?_ | refine E.cs (fun hh => ?_) (fun hh => ?_) | refine E.at_block_other rfl ?_)
  · exact rb (eq_len (by omega))
  refine lp (fun k : Nat => k ≤ xs.length ∧ xs.take k = ys.take k) (fun k => [(0, .pl v), (1, .pl u), (5, .pl (.int .i64 (k : Int)))]) (fun k => []) (fun k => xs.length - k) 0 ⟨Nat.zero_le _, rfl⟩ (fun k hk0 => ?_)
  obtain ⟨hk1, hk2⟩ := hk0
  rcases Nat.lt_or_ge k xs.length with hlt | hge
  · have hlt' : k < ys.length := by omega
    obtain ⟨x, hx⟩ := get_lt hlt
    obtain ⟨y, hy⟩ := get_lt hlt'
    repeat' (first | refine E.st ?_ | refine E.q ?_ | refine E.qs ?_ | refine E.q2 ?_ | refine E.tr ?_ | refine E.ap (fun _ _ => ?_) | refine E.b1 (fun _ _ => ?_) | refine E.b0 (fun _ _ => ?_) | refine E.bsn (fun _ _ => ?_) | refine E.mk (fun _ _ => ?_) | refine E.bx (fun _ => ?_) | refine E.al (fun _ => ?_) | refine E.sb ?_ | refine E.dq ?_ | refine E.ct ?_ | refine E.cf ?_ | refine E.cs (fun hh => ?_) (fun hh => ?_) | refine E.at_block_other rfl ?_)
    · exact rb (eq_no hx hy hh)
    · exact rd (k + 1) ⟨by omega, eq_st hk2 hx hy (by first | exact Decidable.not_not.1 hh | exact hh)⟩
  · repeat' (first | refine E.st ?_ | refine E.q ?_ | refine E.qs ?_ | refine E.q2 ?_ | refine E.tr ?_ | refine E.ap (fun _ _ => ?_) | refine E.b1 (fun _ _ => ?_) | refine E.b0 (fun _ _ => ?_) | refine E.bsn (fun _ _ => ?_) | refine E.mk (fun _ _ => ?_) | refine E.bx (fun _ => ?_) | refine E.al (fun _ => ?_) | refine E.sb ?_ | refine E.dq ?_ | refine E.ct ?_ | refine E.cf ?_ | refine E.cs (fun hh => ?_) (fun hh => ?_) | refine E.at_block_other rfl ?_)
    exact rb (eq_all hk2 (by omega) (by omega))
theorem c_markIntS {w0 : World} {K : List Ck} {v : Value} {xs : List Int} {k : Int} (w : World) (hw : KOk w0 (ownF 3 v xs :: K) w) (hk : 0 ≤ k ∧ k ≤ 1000000000000 := by omega) (hn : xs.length ≤ 10000000 := by omega) :
    Calls Tryz.prog 48 #[v, .int .i64 k] w (RetK (fun _ : Unit => .int .i64 (k + ((xs.length * 1 : Nat) : Int))) (fun _ => [ownF 3 v (marks Int xs.length k)] ++ K) w0) := by
  refine enterK (args := _) hw Tryz.func48 rfl Tryz.ntmps48 (by simp) ?_
  repeat' (first | refine E.st ?_ | refine E.q ?_ | refine E.qs ?_ | refine E.q2 ?_ | refine E.tr ?_ | refine E.ap (fun _ _ => ?_) | refine E.b1 (fun _ _ => ?_) | refine E.b0 (fun _ _ => ?_) | refine E.bsn (fun _ _ => ?_) | refine E.mk (fun _ _ => ?_) | refine E.bx (fun _ => ?_) | refine E.al (fun _ => ?_) | refine E.sb ?_ | refine E.dq ?_ | refine E.ct ?_ | refine E.cf ?_ | refine E.cs (fun hh => ?_) (fun hh => ?_) | refine E.at_block_other rfl ?_)
  refine lp (fun i : Nat => i ≤ xs.length) (fun i => [(0, .pl v), (1, .pl (.int .i64 (k + ((i * 1 : Nat) : Int)))), (5, .pl (.int .i64 (i : Int)))]) (fun i => ownF 3 v (marks Int i k ++ xs.drop i) :: K) (fun i => xs.length - i) 0 (Nat.zero_le _) (fun i hi => ?_) fs (KSub.ownF (Pick.here _ _) (by simp [marks]) (KSub.refl _))
  have hl : (marks Int i k ++ xs.drop i).length = xs.length := by simp [marks_length]; omega
  rcases Nat.lt_or_ge i xs.length with hlt | hge
  · obtain ⟨x, hx⟩ := get_lt hlt
    have hg := mark_get (k := k) hx
    have hs := mark_set (k := k) hx
    have hi1 : k + (((i + 1) * 1 : Nat) : Int) = k + ((i * 1 : Nat) : Int) + 1 := by omega
    simp only [Mark.el, Mark.n] at hs
    generalize hm : k + ((i * 1 : Nat) : Int) = m at hs hi1 ⊢
    have hm2 : 0 ≤ m ∧ m ≤ 1000200000000 := by omega
    generalize marks Int i k ++ xs.drop i = zs at hs hg hl ⊢
    repeat' (first | refine E.st ?_ | (refine trn (fun R hR hl hg => ?_)) | refine E.q ?_ | refine E.qs ?_ | refine E.q2 ?_ | refine E.tr ?_ | refine E.ap (fun _ _ => ?_) | refine E.b1 (fun _ _ => ?_) | refine E.b0 (fun _ _ => ?_) | refine E.bsn (fun _ _ => ?_) | refine E.mk (fun _ _ => ?_) | refine E.bx (fun _ => ?_) | refine E.al (fun _ => ?_) | refine E.sb ?_ | refine E.dq ?_ | refine E.ct ?_ | refine E.cf ?_ | refine E.cs (fun hh => ?_) (fun hh => ?_) | refine E.at_block_other rfl ?_)
    refine rd (i + 1) (by omega) (hF := fs (FSub.cons rfl (FSub.int rfl (by omega) (FSub.int rfl (by omega) FSub.nil)))) (hK := KSub.ownF (Pick.here _ _) ?_ (KSub.refl _))
    first | exact hs | (rw [← hs]; done) | (rw [← hs]; subst_vars; simp only [List.set_set, Int.add_assoc]; done) | (rw [← hs]; subst_vars; simp only [List.set_set, Int.add_assoc]; rfl) | (rw [← hs]; subst_vars; rfl)
  · repeat' (first | refine E.st ?_ | refine E.q ?_ | refine E.qs ?_ | refine E.q2 ?_ | refine E.tr ?_ | refine E.ap (fun _ _ => ?_) | refine E.b1 (fun _ _ => ?_) | refine E.b0 (fun _ _ => ?_) | refine E.bsn (fun _ _ => ?_) | refine E.mk (fun _ _ => ?_) | refine E.bx (fun _ => ?_) | refine E.al (fun _ => ?_) | refine E.sb ?_ | refine E.dq ?_ | refine E.ct ?_ | refine E.cf ?_ | refine E.cs (fun hh => ?_) (fun hh => ?_) | refine E.at_block_other rfl ?_)
    have : i = xs.length := by omega
    subst this
    exact r1K () (hK := KSub.ownF (Pick.here _ _) (by simp) (KSub.refl _))
theorem c_heldIntS {v : Value} {n : Nat} {k : Int} (w : World) (hr : RdF w v (marks Int n k) := by exact rdA) (hk : 0 ≤ k ∧ k ≤ 1000000000000 := by omega) (hn : n ≤ 10000000 := by omega) :
    Calls Tryz.prog 49 #[v, .int .i64 k] w (Ret (fun _ : Unit => .int .i64 (k + ((n * 1 : Nat) : Int))) (fun _ => []) w) := by
  have hl : (marks Int n k).length = n := marks_length _ _
  refine enter (args := _) Tryz.func49 rfl Tryz.ntmps49 (by simp) ?_
  repeat' (first | refine E.st ?_ | refine E.q ?_ | refine E.qs ?_ | refine E.q2 ?_ | refine E.tr ?_ | refine E.ap (fun _ _ => ?_) | refine E.b1 (fun _ _ => ?_) | refine E.b0 (fun _ _ => ?_) | refine E.bsn (fun _ _ => ?_) | refine E.mk (fun _ _ => ?_) | refine E.bx (fun _ => ?_) | refine E.al (fun _ => ?_) | refine E.sb ?_ | refine E.dq ?_ | refine E.ct ?_ | refine E.cf ?_ | refine E.cs (fun hh => ?_) (fun hh => ?_) | refine E.at_block_other rfl ?_)
  refine lp (fun i : Nat => i ≤ n) (fun i => [(0, .pl v), (1, .pl (.int .i64 (k + ((i * 1 : Nat) : Int)))), (5, .pl (.int .i64 (i : Int)))]) (fun i => []) (fun i => n - i) 0 (Nat.zero_le _) (fun i hi => ?_)
  rcases Nat.lt_or_ge i n with hlt | hge
  · have hx := marks_get (α := Int) (n := n) (k := k) hlt
    have hi1 : k + (((i + 1) * 1 : Nat) : Int) = k + ((i * 1 : Nat) : Int) + 1 := by omega
    simp only [Mark.el, Mark.n] at hx
    generalize hm : k + ((i * 1 : Nat) : Int) = m at hx hi1 ⊢
    have hm2 : 0 ≤ m ∧ m ≤ 1000200000000 := by omega
    repeat' (first | refine E.st ?_ | refine E.q ?_ | refine E.qs ?_ | refine E.q2 ?_ | refine E.tr ?_ | refine E.ap (fun _ _ => ?_) | refine E.b1 (fun _ _ => ?_) | refine E.b0 (fun _ _ => ?_) | refine E.bsn (fun _ _ => ?_) | refine E.mk (fun _ _ => ?_) | refine E.bx (fun _ => ?_) | refine E.al (fun _ => ?_) | refine E.sb ?_ | refine E.dq ?_ | refine E.ct ?_ | refine E.cf ?_ | refine E.cs (fun hh => ?_) (fun hh => ?_) | refine E.at_block_other rfl ?_)
    all_goals first
      | exact rd (i + 1) (by omega) (hF := fs (FSub.cons rfl (FSub.int rfl (by omega) (FSub.int rfl (by omega) FSub.nil))))
      | exact absurd rfl (by assumption)
      | (exfalso; (try dsimp only at *); omega)
      | (rename_i hh; refine absurd ?_ hh; (try dsimp only); omega)
  · repeat' (first | refine E.st ?_ | refine E.q ?_ | refine E.qs ?_ | refine E.q2 ?_ | refine E.tr ?_ | refine E.ap (fun _ _ => ?_) | refine E.b1 (fun _ _ => ?_) | refine E.b0 (fun _ _ => ?_) | refine E.bsn (fun _ _ => ?_) | refine E.mk (fun _ _ => ?_) | refine E.bx (fun _ => ?_) | refine E.al (fun _ => ?_) | refine E.sb ?_ | refine E.dq ?_ | refine E.ct ?_ | refine E.cf ?_ | refine E.cs (fun hh => ?_) (fun hh => ?_) | refine E.at_block_other rfl ?_)
    have : i = n := by omega
    subst this
    exact ri
theorem c_toPageS {v : Value} {xs : List E.Pg} (w : World) (hr : RdF w v xs := by exact rdA) (hn : xs.length ≤ 1048576 := by omega) : Calls Tryz.prog 107 #[v] w (Ret (fun s : Sv => .slice s.a s.n s.c) (fun s => [ownF 63 (.slice s.a s.n s.c) xs]) w) := by
  refine calls_sv ?_
  refine enter (args := _) Tryz.func107 rfl Tryz.ntmps107 (by simp) ?_
  repeat' (first | refine E.st ?_ | refine E.q ?_ | refine E.qs ?_ | refine E.q2 ?_ | refine E.tr ?_ | refine E.ap (fun _ _ => ?_) | refine E.b1 (fun _ _ => ?_) | refine E.b0 (fun _ _ => ?_) | refine E.bsn (fun _ _ => ?_) | refine E.mk (fun _ _ => ?_) | refine E.bx (fun _ => ?_) | refine E.al (fun _ => ?_) | refine E.sb ?_ | refine E.dq ?_ | refine E.ct ?_ | refine E.cf ?_ | refine E.cs (fun hh => ?_) (fun hh => ?_) | refine E.at_block_other rfl ?_)
  rename_i v1 h1
  refine lp (fun k : Nat => k ≤ xs.length) (fun k => [(0, .pl v), (3, .pl v1), (4, .pl (.int .i64 (k : Int)))]) (fun k => [ownF 63 v1 (xs.take k ++ List.replicate (xs.length - k) ⟨0, 0⟩)]) (fun k => xs.length - k) 0 (Nat.zero_le _) (fun k hk0 => ?_)
  rcases Nat.lt_or_ge k xs.length with hlt | hge
  · obtain ⟨x, hx⟩ := get_lt hlt
    have hg := fill_get xs (⟨0, 0⟩ : E.Pg) hlt
    have hl : (xs.take k ++ List.replicate (xs.length - k) (⟨0, 0⟩ : E.Pg)).length = xs.length := by simp; omega
    have hs := fill_set xs (⟨0, 0⟩ : E.Pg) hx
    repeat' (first | refine E.st ?_ | refine E.cl (h := fun _ w _ => c_toPage w) (k := ?_)  | refine E.q ?_ | refine E.qs ?_ | refine E.q2 ?_ | refine E.tr ?_ | refine E.ap (fun _ _ => ?_) | refine E.b1 (fun _ _ => ?_) | refine E.b0 (fun _ _ => ?_) | refine E.bsn (fun _ _ => ?_) | refine E.mk (fun _ _ => ?_) | refine E.bx (fun _ => ?_) | refine E.al (fun _ => ?_) | refine E.sb ?_ | refine E.dq ?_ | refine E.ct ?_ | refine E.cf ?_ | refine E.cs (fun hh => ?_) (fun hh => ?_) | refine E.at_block_other rfl ?_)
    exact rd (k + 1) (by omega)
  · repeat' (first | refine E.st ?_ | refine E.q ?_ | refine E.qs ?_ | refine E.q2 ?_ | refine E.tr ?_ | refine E.ap (fun _ _ => ?_) | refine E.b1 (fun _ _ => ?_) | refine E.b0 (fun _ _ => ?_) | refine E.bsn (fun _ _ => ?_) | refine E.mk (fun _ _ => ?_) | refine E.bx (fun _ => ?_) | refine E.al (fun _ => ?_) | refine E.sb ?_ | refine E.dq ?_ | refine E.ct ?_ | refine E.cf ?_ | refine E.cs (fun hh => ?_) (fun hh => ?_) | refine E.at_block_other rfl ?_)
    have : k = xs.length := by omega
    subst this
    have e : xs.take xs.length ++ List.replicate (xs.length - xs.length) (⟨0, 0⟩ : E.Pg) = xs := by simp
    exact r1 _
theorem c_eqPageS {v u : Value} {xs ys : List E.Pg} (w : World) (hr : RdF w v xs := by exact rdA) (hq : RdF w u ys := by exact rdA) : Calls Tryz.prog 19 #[v, u] w (Ret (fun _ : Unit => .bool (decide (xs = ys))) (fun _ => []) w) := by
  have m1 := hr.le
  have m2 := hq.le
  simp only [maxLen] at m1 m2
  refine enter (args := _) Tryz.func19 rfl Tryz.ntmps19 (by simp) ?_
  repeat' (first | refine E.st ?_ | refine E.q ?_ | refine E.qs ?_ | refine E.q2 ?_ | refine E.tr ?_ | refine E.ap (fun _ _ => ?_) | refine E.b1 (fun _ _ => ?_) | refine E.b0 (fun _ _ => ?_) | refine E.bsn (fun _ _ => ?_) | refine E.mk (fun _ _ => ?_) | refine E.bx (fun _ => ?_) | refine E.al (fun _ => ?_) | refine E.sb ?_ | refine E.dq ?_ | refine E.ct ?_ | refine E.cf ?_ | refine E.cs (fun hh => ?_) (fun hh => ?_) | refine E.at_block_other rfl ?_)
  · exact rb (eq_len (by omega))
  refine lp (fun k : Nat => k ≤ xs.length ∧ xs.take k = ys.take k) (fun k => [(0, .pl v), (1, .pl u), (5, .pl (.int .i64 (k : Int)))]) (fun k => []) (fun k => xs.length - k) 0 ⟨Nat.zero_le _, rfl⟩ (fun k hk0 => ?_)
  obtain ⟨hk1, hk2⟩ := hk0
  rcases Nat.lt_or_ge k xs.length with hlt | hge
  · have hlt' : k < ys.length := by omega
    obtain ⟨x, hx⟩ := get_lt hlt
    obtain ⟨y, hy⟩ := get_lt hlt'
    repeat' (first | refine E.st ?_ | refine E.cl (h := fun _ w _ => c_eqPage w) (k := ?_)  | refine E.q ?_ | refine E.qs ?_ | refine E.q2 ?_ | refine E.tr ?_ | refine E.ap (fun _ _ => ?_) | refine E.b1 (fun _ _ => ?_) | refine E.b0 (fun _ _ => ?_) | refine E.bsn (fun _ _ => ?_) | refine E.mk (fun _ _ => ?_) | refine E.bx (fun _ => ?_) | refine E.al (fun _ => ?_) | refine E.sb ?_ | refine E.dq ?_ | refine E.ct ?_ | refine E.cf ?_ | refine E.cs (fun hh => ?_) (fun hh => ?_) | refine E.at_block_other rfl ?_)
    · exact rb (eq_no hx hy hh)
    · exact rd (k + 1) ⟨by omega, eq_st hk2 hx hy (by first | exact Decidable.not_not.1 hh | exact hh)⟩
  · repeat' (first | refine E.st ?_ | refine E.q ?_ | refine E.qs ?_ | refine E.q2 ?_ | refine E.tr ?_ | refine E.ap (fun _ _ => ?_) | refine E.b1 (fun _ _ => ?_) | refine E.b0 (fun _ _ => ?_) | refine E.bsn (fun _ _ => ?_) | refine E.mk (fun _ _ => ?_) | refine E.bx (fun _ => ?_) | refine E.al (fun _ => ?_) | refine E.sb ?_ | refine E.dq ?_ | refine E.ct ?_ | refine E.cf ?_ | refine E.cs (fun hh => ?_) (fun hh => ?_) | refine E.at_block_other rfl ?_)
    exact rb (eq_all hk2 (by omega) (by omega))
theorem c_szPageS {v : Value} {xs : List E.Pg} {k : Int} (w : World) (hr : RdF w v xs := by exact rdA) (hk : 0 ≤ k ∧ k ≤ 1048576 := by omega) : Calls Tryz.prog 105 #[v, .int .i64 k] w (Ret (fun _ : Unit => .int .i64 (if k - xs.length < 0 then -1 else k - xs.length)) (fun _ => []) w) := by
  have m1 := hr.le
  simp only [maxLen] at m1
  refine enter (args := _) Tryz.func105 rfl Tryz.ntmps105 (by simp) ?_
  repeat' (first | refine E.st ?_ | refine E.q ?_ | refine E.qs ?_ | refine E.q2 ?_ | refine E.tr ?_ | refine E.ap (fun _ _ => ?_) | refine E.b1 (fun _ _ => ?_) | refine E.b0 (fun _ _ => ?_) | refine E.bsn (fun _ _ => ?_) | refine E.mk (fun _ _ => ?_) | refine E.bx (fun _ => ?_) | refine E.al (fun _ => ?_) | refine E.sb ?_ | refine E.dq ?_ | refine E.ct ?_ | refine E.cf ?_ | refine E.cs (fun hh => ?_) (fun hh => ?_) | refine E.at_block_other rfl ?_)
  · exact ri (by rw [if_pos (by omega)])
  · exact ri (by rw [if_neg (by omega)])
theorem c_szPageS_yes {v : Value} {xs : List E.Pg} {k : Int} (w : World) (hr : RdF w v xs := by exact rdA) (h : (xs.length : Int) ≤ k := by omega) (hk : 0 ≤ k ∧ k ≤ 1048576 := by omega) : Calls Tryz.prog 105 #[v, .int .i64 k] w (Ret (fun _ : Unit => .int .i64 (k - xs.length)) (fun _ => []) w) := by
  have := c_szPageS w hr hk
  rwa [if_neg (by omega)] at this
theorem c_szPageS_no {v : Value} {xs : List E.Pg} {k : Int} (w : World) (hr : RdF w v xs := by exact rdA) (h : ¬ (xs.length : Int) ≤ k := by omega) (hk : 0 ≤ k ∧ k ≤ 1048576 := by omega) : Calls Tryz.prog 105 #[v, .int .i64 k] w (Ret (fun _ : Unit => .int .i64 (-1)) (fun _ => []) w) := by
  have := c_szPageS w hr hk
  rwa [if_pos (by omega)] at this
theorem c_markPageS {w0 : World} {K : List Ck} {v : Value} {xs : List E.Pg} {k : Int} (w : World) (hw : KOk w0 (ownF 63 v xs :: K) w) (hk : 0 ≤ k ∧ k ≤ 1000000000000 := by omega) (hn : xs.length ≤ 10000000 := by omega) :
    Calls Tryz.prog 22 #[v, .int .i64 k] w (RetK (fun _ : Unit => .int .i64 (k + ((xs.length * 2 : Nat) : Int))) (fun _ => [ownF 63 v (marks E.Pg xs.length k)] ++ K) w0) := by
  refine enterK (args := _) hw Tryz.func22 rfl Tryz.ntmps22 (by simp) ?_
  repeat' (first | refine E.st ?_ | refine E.q ?_ | refine E.qs ?_ | refine E.q2 ?_ | refine E.tr ?_ | refine E.ap (fun _ _ => ?_) | refine E.b1 (fun _ _ => ?_) | refine E.b0 (fun _ _ => ?_) | refine E.bsn (fun _ _ => ?_) | refine E.mk (fun _ _ => ?_) | refine E.bx (fun _ => ?_) | refine E.al (fun _ => ?_) | refine E.sb ?_ | refine E.dq ?_ | refine E.ct ?_ | refine E.cf ?_ | refine E.cs (fun hh => ?_) (fun hh => ?_) | refine E.at_block_other rfl ?_)
  refine lp (fun i : Nat => i ≤ xs.length) (fun i => [(0, .pl v), (1, .pl (.int .i64 (k + ((i * 2 : Nat) : Int)))), (5, .pl (.int .i64 (i : Int)))]) (fun i => ownF 63 v (marks E.Pg i k ++ xs.drop i) :: K) (fun i => xs.length - i) 0 (Nat.zero_le _) (fun i hi => ?_) fs (KSub.ownF (Pick.here _ _) (by simp [marks]) (KSub.refl _))
  have hl : (marks E.Pg i k ++ xs.drop i).length = xs.length := by simp [marks_length]; omega
  rcases Nat.lt_or_ge i xs.length with hlt | hge
  · obtain ⟨x, hx⟩ := get_lt hlt
    have hg := mark_get (k := k) hx
    have hs := mark_set (k := k) hx
    have hi1 : k + (((i + 1) * 2 : Nat) : Int) = k + ((i * 2 : Nat) : Int) + 2 := by omega
    simp only [Mark.el, Mark.n] at hs
    generalize hm : k + ((i * 2 : Nat) : Int) = m at hs hi1 ⊢
    have hm2 : 0 ≤ m ∧ m ≤ 1000200000000 := by omega
    generalize marks E.Pg i k ++ xs.drop i = zs at hs hg hl ⊢
    repeat' (first | refine E.st ?_ | (refine trn (fun R hR hl hg => ?_)) | refine E.q ?_ | refine E.qs ?_ | refine E.q2 ?_ | refine E.tr ?_ | refine E.ap (fun _ _ => ?_) | refine E.b1 (fun _ _ => ?_) | refine E.b0 (fun _ _ => ?_) | refine E.bsn (fun _ _ => ?_) | refine E.mk (fun _ _ => ?_) | refine E.bx (fun _ => ?_) | refine E.al (fun _ => ?_) | refine E.sb ?_ | refine E.dq ?_ | refine E.ct ?_ | refine E.cf ?_ | refine E.cs (fun hh => ?_) (fun hh => ?_) | refine E.at_block_other rfl ?_)
    refine rd (i + 1) (by omega) (hF := fs (FSub.cons rfl (FSub.int rfl (by omega) (FSub.int rfl (by omega) FSub.nil)))) (hK := KSub.ownF (Pick.here _ _) ?_ (KSub.refl _))
    first | exact hs | (rw [← hs]; done) | (rw [← hs]; subst_vars; simp only [List.set_set, Int.add_assoc]; done) | (rw [← hs]; subst_vars; simp only [List.set_set, Int.add_assoc]; rfl) | (rw [← hs]; subst_vars; rfl)
  · repeat' (first | refine E.st ?_ | refine E.q ?_ | refine E.qs ?_ | refine E.q2 ?_ | refine E.tr ?_ | refine E.ap (fun _ _ => ?_) | refine E.b1 (fun _ _ => ?_) | refine E.b0 (fun _ _ => ?_) | refine E.bsn (fun _ _ => ?_) | refine E.mk (fun _ _ => ?_) | refine E.bx (fun _ => ?_) | refine E.al (fun _ => ?_) | refine E.sb ?_ | refine E.dq ?_ | refine E.ct ?_ | refine E.cf ?_ | refine E.cs (fun hh => ?_) (fun hh => ?_) | refine E.at_block_other rfl ?_)
    have : i = xs.length := by omega
    subst this
    exact r1K () (hK := KSub.ownF (Pick.here _ _) (by simp) (KSub.refl _))
theorem c_heldPageS {v : Value} {n : Nat} {k : Int} (w : World) (hr : RdF w v (marks E.Pg n k) := by exact rdA) (hk : 0 ≤ k ∧ k ≤ 1000000000000 := by omega) (hn : n ≤ 10000000 := by omega) :
    Calls Tryz.prog 23 #[v, .int .i64 k] w (Ret (fun _ : Unit => .int .i64 (k + ((n * 2 : Nat) : Int))) (fun _ => []) w) := by
  have hl : (marks E.Pg n k).length = n := marks_length _ _
  refine enter (args := _) Tryz.func23 rfl Tryz.ntmps23 (by simp) ?_
  repeat' (first | refine E.st ?_ | refine E.q ?_ | refine E.qs ?_ | refine E.q2 ?_ | refine E.tr ?_ | refine E.ap (fun _ _ => ?_) | refine E.b1 (fun _ _ => ?_) | refine E.b0 (fun _ _ => ?_) | refine E.bsn (fun _ _ => ?_) | refine E.mk (fun _ _ => ?_) | refine E.bx (fun _ => ?_) | refine E.al (fun _ => ?_) | refine E.sb ?_ | refine E.dq ?_ | refine E.ct ?_ | refine E.cf ?_ | refine E.cs (fun hh => ?_) (fun hh => ?_) | refine E.at_block_other rfl ?_)
  refine lp (fun i : Nat => i ≤ n) (fun i => [(0, .pl v), (1, .pl (.int .i64 (k + ((i * 2 : Nat) : Int)))), (5, .pl (.int .i64 (i : Int)))]) (fun i => []) (fun i => n - i) 0 (Nat.zero_le _) (fun i hi => ?_)
  rcases Nat.lt_or_ge i n with hlt | hge
  · have hx := marks_get (α := E.Pg) (n := n) (k := k) hlt
    have hi1 : k + (((i + 1) * 2 : Nat) : Int) = k + ((i * 2 : Nat) : Int) + 2 := by omega
    simp only [Mark.el, Mark.n] at hx
    generalize hm : k + ((i * 2 : Nat) : Int) = m at hx hi1 ⊢
    have hm2 : 0 ≤ m ∧ m ≤ 1000200000000 := by omega
    repeat' (first | refine E.st ?_ | refine E.q ?_ | refine E.qs ?_ | refine E.q2 ?_ | refine E.tr ?_ | refine E.ap (fun _ _ => ?_) | refine E.b1 (fun _ _ => ?_) | refine E.b0 (fun _ _ => ?_) | refine E.bsn (fun _ _ => ?_) | refine E.mk (fun _ _ => ?_) | refine E.bx (fun _ => ?_) | refine E.al (fun _ => ?_) | refine E.sb ?_ | refine E.dq ?_ | refine E.ct ?_ | refine E.cf ?_ | refine E.cs (fun hh => ?_) (fun hh => ?_) | refine E.at_block_other rfl ?_)
    all_goals first
      | exact rd (i + 1) (by omega) (hF := fs (FSub.cons rfl (FSub.int rfl (by omega) (FSub.int rfl (by omega) FSub.nil))))
      | exact absurd rfl (by assumption)
      | (exfalso; (try dsimp only at *); omega)
      | (rename_i hh; refine absurd ?_ hh; (try dsimp only); omega)
  · repeat' (first | refine E.st ?_ | refine E.q ?_ | refine E.qs ?_ | refine E.q2 ?_ | refine E.tr ?_ | refine E.ap (fun _ _ => ?_) | refine E.b1 (fun _ _ => ?_) | refine E.b0 (fun _ _ => ?_) | refine E.bsn (fun _ _ => ?_) | refine E.mk (fun _ _ => ?_) | refine E.bx (fun _ => ?_) | refine E.al (fun _ => ?_) | refine E.sb ?_ | refine E.dq ?_ | refine E.ct ?_ | refine E.cf ?_ | refine E.cs (fun hh => ?_) (fun hh => ?_) | refine E.at_block_other rfl ?_)
    have : i = n := by omega
    subst this
    exact ri
end E
end Go.Proofs.YtpiiapoafmnhhaaGreat
