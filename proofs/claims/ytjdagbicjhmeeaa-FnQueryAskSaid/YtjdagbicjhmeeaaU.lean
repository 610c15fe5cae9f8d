/- The engine, second edition, fifth part: copy, min, texts. -/
import Derived.Test.YtjdagbicjhmeeaaV
import Derived.Laws.BytesString
namespace Go.Proofs.Ytjdagbicjhmeeaa
namespace E
set_option linter.unusedSimpArgs false
set_option linter.unusedVariables false
open Go Go.RowKit
section
variable {P : Program} {N : Nat} {w0 : World} {K K' Kp : List Ck} {F F' : List (Nat × En)} {c : Bool} {Q : Exit → Act → World → Prop} {ops : Array Oper} {rest : List Oper} {d : Nat} {dd : Option Tmp} {ty : TypeId} {pos : String} {af : Array Edge} {gd : Option (Nat × Bool)}
variable {x y ix iy : Operand} {t t' : TypeId} {u v : Value} {o : Oper} {Kn : Act → World → Prop} {m m' : Md} {e : En} {gk : Bool} {i j : Int} {k : IntKind}
theorem a_min (hx : Opd N F c x (.int .i64 i) := by first | exact Opd.pl rfl | exact Opd.gd rfl (fun h => h)) (hy : Opd N F c y (.int .i64 j) := by first | exact Opd.pl rfl | exact Opd.gd rfl (fun h => h)) : YV P N w0 K F c ⟨dd, .call { callee := .builtin .min, args := #[x, y], argTypes := #[t, t'] }, ty, pos, af, gd⟩ (.int .i64 (if j < i then j else i)) := fun a w ha hc hw => by
  simp [execOp, resolve, invoke, builtin, hx a ha hc, hy a ha hc, Builtin.min_, Builtin.min2]
/-! ### copy -/
theorem ho_copy {α : Type} [Flat α] {el : TypeId} {xs ys : List α} {sz bytes : Nat} [T : TSlc P t el] [R : TRow P el sz bytes] (hsz : sz = Flat.k α) (hN : d < N) (hx : Opd N F true x v) (hy : Opd N F true y u)
    (hp : Pick K (ownF el v xs) K') (hs : RdIn w0 K' u ys) (hl : ys.length = xs.length)
    (hr : At N w0 Kn ((d, .pl (.int .i64 (ys.length : Int))) :: F) (ownF el v ys :: K')) :
    HO P N w0 Q ⟨some d, .call { callee := .builtin .copy, args := #[x, y], argTypes := #[t, t'] }, ty, pos, af, none⟩ Kn F K := fun a w ha hw => by
  have hw' := hw.pick hp
  have hown := hw'.holds _ List.mem_cons_self
  have hrd := hs w hw'.drop
  obtain ⟨i, z, hi, hz, hss, hb, hzs, hpos⟩ := R.row
  obtain ⟨A, cp, hu, h1, h2, hA⟩ := hrd.sl
  subst hu
  subst hsz
  have hcl := hrd.len
  have hmin : Nat.min ys.length xs.length = ys.length := by rw [hl]; exact Nat.min_self _
  have hfc : (Builtin.firstCells (Flat.k α) ys.length (.slice A ys.length cp)).run P w = .ok (cells ys).toArray w := by
    cases A with
    | none =>
      have h0 : ys.length = 0 := by
        rcases Nat.eq_zero_or_pos ys.length with h0 | h0
        · exact h0
        · obtain ⟨a, h⟩ := hA h0; cases h
      have : cells ys = [] := by
        apply List.eq_nil_of_length_eq_zero
        rw [cells_length, h0]; simp
      simp [Builtin.firstCells, this]
    | some a =>
      have h3 := run_loadCells_of (P := P) w a (cells ys) 0 #[] (fun j u hu => by rw [Nat.zero_add]; exact hrd.cell j u hu)
      rw [cells_length] at h3
      simp only [Builtin.firstCells, loadCells]
      simpa using h3
  unfold ownF at hown
  obtain ⟨hlen, hown⟩ := hown
  rcases hown with ⟨rfl, h0⟩ | ⟨g, cap, cur, rfl, hB, hh, hnc, hcm, hcur, htk⟩
  · have hy0 : ys.length = 0 := by omega
    have hys : ys = [] := List.eq_nil_of_length_eq_zero hy0
    have hxs : xs = [] := List.eq_nil_of_length_eq_zero h0
    subst hys; subst hxs
    refine ho_val (.int .i64 0) w ?_ (hr _ _ (ha.put d (.pl _) _ hN rfl) hw')
    have hfc' := hfc
    simp only [List.length_nil] at hfc'
    simp [execOp, resolve, invoke, builtin, hx a ha rfl, hy a ha rfl, Builtin.copy_, run_underlying T.is, Builtin.lenOf, sizeOf, typeInfo, hi, hss, hfc', goInt]
  · have hle2 : xs.length * Flat.k α ≤ cap * Flat.k α := Nat.mul_le_mul_right _ hnc
    have hcy : (cells ys).length = xs.length * Flat.k α := by rw [cells_length, hl]
    obtain ⟨w1, hrun, hg, hh1, hz1⟩ := run_storeCells (P := P) (cells ys) w cur.toList ⟨g, 0, none⟩ 0 0 rfl rfl (by simpa using hh) (by simp [hcur]; omega) (cells_one ys) rfl
    have hset : setAt (cells xs) 0 (cells ys) = cells ys := setAt_full _ _ (by rw [hcy, cells_length])
    have hK := hw'.turn (k' := ownF el (.slice (some ⟨g, 0, none⟩) xs.length cap) ys) (g := g) rfl hg (by
      have := ownsRow_setAt (k := 0) (vs := cells ys) hlen hnc hcm hB hcur htk (by omega) hh1
      rw [hset] at this
      unfold ownF
      rw [hl]
      exact this) (Or.inl rfl)
    refine ho_val (.int .i64 (ys.length : Int)) w1 ?_ (hr _ _ (ha.put d (.pl _) _ hN rfl) hK)
    simp [execOp, resolve, invoke, builtin, hx a ha rfl, hy a ha rfl, Builtin.copy_, run_underlying T.is, Builtin.lenOf, sizeOf, typeInfo, hi, hss, hmin, hfc, hrun, goInt]
/-- copy, all of a row of the call's own. -/
theorem cp {α : Type} [Flat α] {el : TypeId} {xs ys : List α} {sz bytes : Nat} [T : TSlc P t el] [R : TRow P el sz bytes] (hr : HG P N w0 ops Q m' rest ((d, .pl (.int .i64 (ys.length : Int))) :: F) (ownF el v ys :: K')) (hN : d < N := by decide) (hx : Opd N F true x v := by exact Opd.pl rfl) (hy : Opd N F true y u := by exact Opd.pl rfl) (hp : Pick K (ownF el v xs) K' := by exact pk) (hs : RdIn w0 K' u ys := by exact rdI) (hl : ys.length = xs.length := by first | rfl | simp | omega) (hsz : sz = Flat.k α := by rfl) (hX : NX m m' := by first | exact NX.l | exact NX.q | exact NX.x _ _ _ _ | exact NX.y _ _ _ _) (hA : KA ops m := by first | exact KA.l | exact KA.y | exact KA.x (by decide +kernel)) (hB : ∀ (_ : Unit), KB ops m (ownF el v ys :: K') := by first | exact fun _ => KB.l | exact fun _ => KB.x (Or.inr ks) | exact fun _ => KB.x (Or.inl (by decide +kernel)) | exact fun _ => KB.y (Or.inr ks) | exact fun _ => KB.y (Or.inl (by decide +kernel))) :
    HG P N w0 ops Q m (⟨some d, .call { callee := .builtin .copy, args := #[x, y], argTypes := #[t, t'] }, ty, pos, af, none⟩ :: rest) F K := hgo (Fi := fun _ : Unit => (d, .pl (.int .i64 (ys.length : Int))) :: F) (Ki := fun _ => ownF el v ys :: K') hA hB hX rfl (fun _ => hr) (fun Q' Kn hk => ho_copy hsz hN hx hy hp hs hl (hk ()))
/-- A drawn region: the own row v is turned, all other chunks stay. -/
theorem dxo [M : Mx P] (v : Value) {α : Type} [Flat α] {t0 : TypeId} {xs : List α} {i : Nat} {l l' : List Oper} (is : List Nat) (h : HG P N w0 l.toArray Q (.x (l.length - 1) Kp is) l' F K) (hp : Pick K (ownF t0 v xs) Kp := by exact pk) (hg : Gath l is l' := by (repeat (first | exact Gath.nil | (apply Gath.cons; rfl))); first | done | fail) (hn : is.Nodup := by decide) (hl : is.length = l.length := by rfl) (hb : (List.range l.length).all (fun j => inB is j) = true := by rfl) : HC P N w0 (.region i l.toArray true) Q F K := by
  refine hx_start (l.length - 1) Kp M.mx ?_
  have h' := h (by simpa using hg) hn
  have hl' : l'.length = l.length := by
    rw [← hl]
    clear h h' hn hl hb
    induction hg with
    | nil => rfl
    | cons _ _ ih => simp [ih]
  have hall : ∀ j, j < l.length → inB is j = true := fun j hj => List.all_eq_true.1 hb j (List.mem_range.2 hj)
  have e : lst l.toArray.size is = Array.replicate l.length false := by
    apply Array.ext
    · simp [lst]
    · intro j h1 h2
      have hj : j < l.length := by simpa [lst] using h1
      simp [lst, hall j hj]
  rw [e, hl'] at h'
  exact h'
/-- append to the beginning of a row of the call's own. -/
theorem apP {α : Type} [Flat α] {e : TypeId} {xs ys : List α} {sz bytes n : Nat} [T : TSlc P t e] [R : TRow P e sz bytes] (hx : Opd N F true x (pre v n) := by exact Opd.pl rfl) (hy : Opd N F true y u := by exact Opd.pl rfl) (hp : Pick K (ownF e v xs) K' := by exact pk) (hs : RdIn w0 K' u ys := by exact rdI) (hn : n ≤ xs.length := by omega) (hr : ∀ v', v'.oneCell' = true → HG P N w0 ops Q m' rest ((d, .pl v') :: F) (ownF e v' (xs.take n ++ ys) :: K')) (hN : d < N := by decide) (hb : (xs.length + ys.length) * bytes ≤ 140737488355328 ∧ xs.length + ys.length ≤ maxLen := by first | (simp only [maxLen]; omega) | (simp only [List.length_append, List.length_cons, List.length_nil, maxLen] at *; omega)) (hsz : sz = Flat.k α := by rfl) (hX : NX m m' := by first | exact NX.l | exact NX.q | exact NX.x _ _ _ _ | exact NX.y _ _ _ _) (hA : KA ops m := by first | exact KA.l | exact KA.y | exact KA.x (by decide +kernel)) (hB : ∀ (z : { v' : Value // v'.oneCell' = true }), KB ops m (ownF e z.1 (xs.take n ++ ys) :: K') := by first | exact fun _ => KB.l | exact fun _ => KB.x (Or.inr ks) | exact fun _ => KB.x (Or.inl (by decide +kernel)) | exact fun _ => KB.y (Or.inr ks) | exact fun _ => KB.y (Or.inl (by decide +kernel))) :
    HG P N w0 ops Q m (⟨some d, .call { callee := .builtin .append, args := #[x, y], argTypes := #[t, t] }, ty, pos, af, none⟩ :: rest) F K := hgo (Fi := fun z => (d, .pl z.1) :: F) (Ki := fun z : { v' : Value // v'.oneCell' = true } => ownF e z.1 (xs.take n ++ ys) :: K') hA hB hX rfl (fun z => hr z.1 z.2) (fun Q' Kn hk => by
  have hl : (xs.take n).length = n := by rw [List.length_take, Nat.min_eq_left hn]
  have hm : (xs.take n).length + ys.length ≤ xs.length + ys.length := by omega
  have hm2 : ((xs.take n).length + ys.length) * bytes ≤ (xs.length + ys.length) * bytes := Nat.mul_le_mul_right _ hm
  have h := ho_app (P := P) (Q := Q') (Kn := Kn) (t := t) (w0 := w0) (K := ownF e (pre v n) (xs.take n) :: K') (K' := K') (F := F) (ty := ty) (pos := pos) (af := af) (xs := xs.take n) (ys := ys) hsz hN hx hy (.here _ _) hs ⟨by omega, by omega⟩ (fun v' hv' => hk ⟨v', hv'⟩)
  exact fun a w ha hw => h a w ha ((hw.pick hp).pre hn))
/-- The box g is turned, all other chunks stay to the end. -/
theorem dxq [M : Mx P] (g : Nat) {t0 : TypeId} {cs : List Value} {i : Nat} {l l' : List Oper} (is : List Nat) (h : HG P N w0 l.toArray Q (.x (l.length) Kp is) l' F K) (hp : Pick K (.box g t0 cs) Kp := by exact pk) (hg : Gath l is l' := by (repeat (first | exact Gath.nil | (apply Gath.cons; rfl))); first | done | fail) (hn : is.Nodup := by decide) (hl : is.length = l.length := by rfl) (hb : (List.range l.length).all (fun j => inB is j) = true := by rfl) : HC P N w0 (.region i l.toArray true) Q F K := by
  refine hx_start (l.length) Kp M.mx ?_
  have h' := h (by simpa using hg) hn
  have hl' : l'.length = l.length := by
    rw [← hl]
    clear h h' hn hl hb
    induction hg with
    | nil => rfl
    | cons _ _ ih => simp [ih]
  have hall : ∀ j, j < l.length → inB is j = true := fun j hj => List.all_eq_true.1 hb j (List.mem_range.2 hj)
  have e : lst l.toArray.size is = Array.replicate l.length false := by
    apply Array.ext
    · simp [lst]
    · intro j h1 h2
      have hj : j < l.length := by simpa [lst] using h1
      simp [lst, hall j hj]
  rw [e, hl'] at h'
  exact h'
/-- Two boxes are turned. -/
theorem dxq2 [M : Mx P] (g g' : Nat) {t0 t1 : TypeId} {cs cs' : List Value} {K1 : List Ck} {i : Nat} {l l' : List Oper} (is : List Nat) (h : HG P N w0 l.toArray Q (.x (l.length) Kp is) l' F K) (hp : Pick K (.box g t0 cs) K1 := by exact pk) (hp' : Pick K1 (.box g' t1 cs') Kp := by exact pk) (hg : Gath l is l' := by (repeat (first | exact Gath.nil | (apply Gath.cons; rfl))); first | done | fail) (hn : is.Nodup := by decide) (hl : is.length = l.length := by rfl) (hb : (List.range l.length).all (fun j => inB is j) = true := by rfl) : HC P N w0 (.region i l.toArray true) Q F K := by
  refine hx_start (l.length) Kp M.mx ?_
  have h' := h (by simpa using hg) hn
  have hl' : l'.length = l.length := by
    rw [← hl]
    clear h h' hn hl hb
    induction hg with
    | nil => rfl
    | cons _ _ ih => simp [ih]
  have hall : ∀ j, j < l.length → inB is j = true := fun j hj => List.all_eq_true.1 hb j (List.mem_range.2 hj)
  have e : lst l.toArray.size is = Array.replicate l.length false := by
    apply Array.ext
    · simp [lst]
    · intro j h1 h2
      have hj : j < l.length := by simpa [lst] using h1
      simp [lst, hall j hj]
  rw [e, hl'] at h'
  exact h'
/-! ### Texts -/
theorem a_index_str {s : ByteArray} {b : UInt8} {kd : IntKind} [T : TStr P t] (h : Opd N F c x (.string s) := by first | exact Opd.pl rfl | exact Opd.gd rfl (fun h => h)) (hi : Opd N F c ix (.int kd i) := by first | exact Opd.pl rfl | exact Opd.gd rfl (fun h => h)) (hb : c = true → 0 ≤ i ∧ s[i.toNat]? = some b) : YV P N w0 K F c ⟨dd, .index t x ix, ty, pos, af, gd⟩ (.int .u8 (b.toNat : Int)) := fun a w ha hc hw => by
  obtain ⟨h0, h1⟩ := hb hc
  simp [execOp, h a ha hc, hi a ha hc, Instr.index, asIntOf, run_underlying T.is, h0, h1]
theorem a_cat {s r : ByteArray} [T : TStr P t] (hx : Opd N F c x (.string s) := by first | exact Opd.pl rfl | exact Opd.gd rfl (fun h => h)) (hy : Opd N F c y (.string r) := by first | exact Opd.pl rfl | exact Opd.gd rfl (fun h => h)) (hl : c = true → s.size + r.size < 9223372036854775808 := by first | exact (fun _ => by omega) | exact (fun _ => by simp only [ByteArray.size_append] at *; omega)) : YV P N w0 K F c ⟨dd, .binOp .add t x y t', ty, pos, af, gd⟩ (.string (s ++ r)) := fun a w ha hc hw => by
  have := hl hc
  have h2 : ¬ (((s.size + r.size : Nat) : Int) > IntKind.i64.max) := by
    have : IntKind.i64.max = 9223372036854775807 := rfl
    omega
  simp only [execOp, hx a ha hc, hy a ha hc, Sem.run_bind, eqGuard_str, Result.andThen_ok, binOp, Op.stringOp, h2, if_false, Sem.run_pure]
theorem toList_beq (s r : ByteArray) : (s.toList == r.toList) = decide (s = r) := by
  rw [ByteArray.toList_eq, ByteArray.toList_eq]
  by_cases h : s = r
  · subst h; simp
  · have : ¬ s.data.toList = r.data.toList := fun e => h (by
      cases s; cases r
      simp only [ByteArray.mk.injEq]
      exact Array.toList_inj.1 e)
    simp only [h, decide_false]
    exact beq_false_of_ne this
theorem a_eql_str {s r : ByteArray} [T : TStr P t] (hx : Opd N F c x (.string s) := by first | exact Opd.pl rfl | exact Opd.gd rfl (fun h => h)) (hy : Opd N F c y (.string r) := by first | exact Opd.pl rfl | exact Opd.gd rfl (fun h => h)) : YV P N w0 K F c ⟨dd, .binOp .eql t x y t', ty, pos, af, gd⟩ (.bool (decide (s = r))) := fun a w ha hc hw => by
  simp only [execOp, hx a ha hc, hy a ha hc, Sem.run_bind, eqGuard_str, Result.andThen_ok, binOp, Op.stringOp, toList_beq, Sem.run_pure]
theorem a_neq_str {s r : ByteArray} [T : TStr P t] (hx : Opd N F c x (.string s) := by first | exact Opd.pl rfl | exact Opd.gd rfl (fun h => h)) (hy : Opd N F c y (.string r) := by first | exact Opd.pl rfl | exact Opd.gd rfl (fun h => h)) : YV P N w0 K F c ⟨dd, .binOp .neq t x y t', ty, pos, af, gd⟩ (.bool (!decide (s = r))) := fun a w ha hc hw => by
  simp only [execOp, hx a ha hc, hy a ha hc, Sem.run_bind, eqGuard_str, Result.andThen_ok, binOp, Op.stringOp, toList_beq, Sem.run_pure]
/-- Bytes as a text. -/
def tx (l : List UInt8) : ByteArray := ⟨l.toArray⟩
theorem fold_push : ∀ (l : List UInt8) (r : ByteArray), (l.map (fun b => (b.toNat : Int))).foldl (fun r n => r.push (UInt8.ofNat n.toNat)) r = ⟨(r.data.toList ++ l).toArray⟩
  | [], r => by cases r; simp
  | b :: l, r => by
    simp only [List.map_cons, List.foldl_cons]
    rw [fold_push l]
    simp [ByteArray.push]
theorem cells_u8 (bs : List UInt8) : cells bs = (bs.map (fun b => (b.toNat : Int))).map (Value.int .u8) := by
  unfold cells
  induction bs with
  | nil => rfl
  | cons b bs ih => rw [List.flatMap_cons, ih]; rfl
theorem a_b2s {bs : List UInt8} {el : TypeId} [T : TSlc P t el] [E8 : TInt P el .u8] [S : TStr P t'] (h : Opd N F c x v := by first | exact Opd.pl rfl | exact Opd.gd rfl (fun h => h)) (hs : RdIn w0 K v bs := by exact rdI) : YV P N w0 K F c ⟨dd, .convert t t' x, ty, pos, af, gd⟩ (.string (tx bs)) := fun a w ha hc hw => by
  have hrd := hs w hw
  obtain ⟨A, cp, hv, h1, h2, hA⟩ := hrd.sl
  subst hv
  have hrun : (convert t t' (.slice A bs.length cp)).run P w = .ok (.string (tx bs)) w := by
    rw [run_convert_bytes_string w t t' el A bs.length cp T.is E8.is S.is]
    cases A with
    | none =>
      have h0 : bs.length = 0 := by
        rcases Nat.eq_zero_or_pos bs.length with h0 | h0
        · exact h0
        · obtain ⟨a, h⟩ := hA h0; cases h
      have : bs = [] := List.eq_nil_of_length_eq_zero h0
      subst this
      simp only [Conv.bytesToString, Sem.run_pure]
      rfl
    | some ad =>
      have hc8 := cells_u8 bs
      have h3 := run_loadCells_of (P := P) w ad (cells bs) 0 #[] (fun j u hu => by rw [Nat.zero_add]; exact hrd.cell j u hu)
      rw [cells_length] at h3
      have h4 : (loadCells ad bs.length).run P w = .ok ((bs.map (fun b => (b.toNat : Int))).map (Value.int .u8)).toArray w := by
        rw [← hc8]
        simp only [loadCells]
        have hk : Flat.k UInt8 = 1 := rfl
        rw [hk, Nat.mul_one] at h3
        simpa using h3
      rw [run_bytesToString w ad bs.length cp _ h4, fold_push]
      simp [tx]
  simp [execOp, h a ha hc, hrun]
theorem u8_wrap (z : Int) : IntKind.u8.wrap z = ((UInt8.ofInt z).toNat : Int) := by
  have h : IntKind.u8.wrap z = z % 256 := by unfold IntKind.wrap; rfl
  rw [h]
  have : (UInt8.ofInt z).toNat = (z % 256).toNat := by simp [UInt8.ofInt]; omega
  rw [this]
  omega
instance (z : Int) : MkI UInt8 [.int .u8 (IntKind.u8.wrap z)] (UInt8.ofInt z) := ⟨by rw [u8_wrap]; rfl⟩
theorem a_str_suf {s : ByteArray} {kd : IntKind} {n : Nat} [T : TStr P t] (h : Opd N F c x (.string s) := by first | exact Opd.pl rfl | exact Opd.gd rfl (fun h => h)) (hi : Opd N F c ix (.int kd i) := by first | exact Opd.pl rfl | exact Opd.gd rfl (fun h => h)) (hk : c = true → i = (n : Int) ∧ n ≤ s.size := by first | exact (fun _ => ⟨rfl, by omega⟩) | exact (fun _ => ⟨(Int.toNat_of_nonneg (by omega)).symm, by omega⟩)) : YV P N w0 K F c ⟨dd, .slice t x (some ix) none none, ty, pos, af, gd⟩ (.string (s.extract n s.size)) := fun a w ha hc hw => by
  obtain ⟨rfl, hl⟩ := hk hc
  simp [execOp, h a ha hc, hi a ha hc, Instr.sliceAt, Instr.slice, Instr.sliceBounds, Instr.sliceBound, asIntOf, run_underlying T.is, hl]
theorem a_str_pre {s : ByteArray} {kd : IntKind} {n : Nat} [T : TStr P t] (h : Opd N F c x (.string s) := by first | exact Opd.pl rfl | exact Opd.gd rfl (fun h => h)) (hi : Opd N F c ix (.int kd i) := by first | exact Opd.pl rfl | exact Opd.gd rfl (fun h => h)) (hk : c = true → i = (n : Int) ∧ n ≤ s.size := by first | exact (fun _ => ⟨rfl, by omega⟩) | exact (fun _ => ⟨(Int.toNat_of_nonneg (by omega)).symm, by omega⟩)) : YV P N w0 K F c ⟨dd, .slice t x none (some ix) none, ty, pos, af, gd⟩ (.string (s.extract 0 n)) := fun a w ha hc hw => by
  obtain ⟨rfl, hl⟩ := hk hc
  simp [execOp, h a ha hc, hi a ha hc, Instr.sliceAt, Instr.slice, Instr.sliceBounds, Instr.sliceBound, asIntOf, run_underlying T.is, hl]
/-! ### Values that are not known are cells of their own -/
theorem a_buildO {parts : Array (Nat × Operand)} {z cs : List Value} {lay : Array (Nat × Nat)} [T : TLay P t z lay] (h : Fill N F c lay z parts.toList cs := by (repeat (first | exact Fill.nil _ | (apply Fill.cons; (first | exact Opd.pl rfl | exact Opd.gd rfl (fun h => h)); (first | exact one_cells (by assumption) | rfl); rfl; rfl; (repeat (first | exact SetN.nil _ | apply SetN.here | apply SetN.there))))); first | done | fail) : YV P N w0 K F c ⟨dd, .build t parts, ty, pos, af, gd⟩ (.agg cs.toArray) := fun a w ha hc hw => by
  have h1 := h.run ha hc
  have e : (parts.map fun (p : Nat × Operand) => (p.1, a.eval p.2)).toList = parts.toList.map fun (p : Nat × Operand) => (p.1, a.eval p.2) := by simp
  have h2 := TLay.run (P := P) (t := t) (z := z) (lay := lay) (parts.map fun (p : Nat × Operand) => (p.1, a.eval p.2)) cs (by rw [e]; exact h1) w
  simp [execOp, h2]
theorem bxO {cs : List Value} (hr : ∀ g, HG P N w0 ops Q m' rest ((d, .pl (.pointer (some ⟨g, 0, none⟩))) :: F) (.box g t cs :: K)) (hN : d < N := by decide) (hx : Opd N F true x v := by exact Opd.pl rfl) (hc : v.cells = cs.toArray := by first | exact one_cells (by assumption) | rfl) (hX : NX m m' := by first | exact NX.l | exact NX.q | exact NX.x _ _ _ _ | exact NX.y _ _ _ _) (hA : KA ops m := by first | exact KA.l | exact KA.y | exact KA.x (by decide +kernel)) (hB : ∀ (g : Nat), KB ops m (.box g t cs :: K) := by first | exact fun _ => KB.l | exact fun _ => KB.x (Or.inr ks) | exact fun _ => KB.x (Or.inl (by decide +kernel)) | exact fun _ => KB.y (Or.inr ks) | exact fun _ => KB.y (Or.inl (by decide +kernel))) : HG P N w0 ops Q m (⟨some d, .box t x, ty, pos, af, none⟩ :: rest) F K := hgo (Fi := fun g : Nat => (d, .pl (.pointer (some ⟨g, 0, none⟩))) :: F) (Ki := fun g => .box g t cs :: K) hA hB hX rfl hr (fun Q' Kn hk => ob hk hN hx hc)
theorem sbO {t0 : TypeId} {vs cs cs' : List Value} {g i n : Nat} [T : TSize P t n] (hr : HG P N w0 ops Q m' rest F (.box g t0 cs' :: K')) (hx : Opd N F true x (.pointer (some ⟨g, i, none⟩)) := by exact Opd.pl rfl) (hy : Opd N F true y v := by exact Opd.pl rfl) (hv : v.cells = vs.toArray := by first | exact one_cells (by assumption) | rfl) (hn : vs.length = n := by rfl) (hp : Pick K (.box g t0 cs) K' := by exact pk) (hs : SetN cs i vs cs' := by (repeat (first | exact SetN.nil _ | apply SetN.here | apply SetN.there)); first | done | fail) (h1 : ∀ u ∈ vs, u.oneCell' = true := by exact one_all) (hX : NX m m' := by first | exact NX.l | exact NX.q | exact NX.x _ _ _ _ | exact NX.y _ _ _ _) (hA : KA ops m := by first | exact KA.l | exact KA.y | exact KA.x (by decide +kernel)) (hB : ∀ (_ : Unit), KB ops m (.box g t0 cs' :: K') := by first | exact fun _ => KB.l | exact fun _ => KB.x (Or.inr ks) | exact fun _ => KB.x (Or.inl (by decide +kernel)) | exact fun _ => KB.y (Or.inr ks) | exact fun _ => KB.y (Or.inl (by decide +kernel))) : HG P N w0 ops Q m (⟨none, .store t x y, ty, pos, af, none⟩ :: rest) F K := hgo (Fi := fun _ : Unit => F) (Ki := fun _ => .box g t0 cs' :: K') hA hB hX rfl (fun _ => hr) (fun Q' Kn hk => ho_store_box hx hy hv hn h1 hp hs (hk ()))
/-- Quiet operations on texts. -/
theorem q4 {Kq : List Ck} (hr : HG P N w0 ops Q m' rest ((d, e) :: F) K) (hd : o.dst = some d := by rfl) (hN : d < N := by decide) (hG : GE N F ops o.guard c gk := by first | exact GE.n | exact GE.s (by first | exact GV.pt rfl rfl | exact GV.pf rfl rfl | exact GV.gt rfl rfl | exact GV.gf rfl rfl)) (hX : NX m m' := by first | exact NX.l | exact NX.q | exact NX.x _ _ _ _ | exact NX.y _ _ _ _) (hQ : KQ ops K m Kq := by first | exact KQ.l | exact KQ.q | exact KQ.x (by decide +kernel) ks) (hy : YV P N w0 Kq F c o v := by first | exact a_cat | exact a_eql_str | exact a_neq_str | exact a_b2s | exact a_str_suf | exact a_str_pre | exact a_min | exact a_buildO) (he : IE gk c v e := by first | exact IE.n _ _ | exact IE.s _ _) : HG P N w0 ops Q m (o :: rest) F K := hgv hd hN hG hQ hX hy he hr
end
/-- A call that changes one chunk of the caller's; the others are named. -/
theorem ckq {P : Program} {N : Nat} {w0 : World} {K K' : List Ck} {F : List (Nat × En)} {Q : Exit → Act → World → Prop} {ops : Array Oper} {rest : List Oper} {d : Nat} {ty : TypeId} {pos : String} {af : Array Edge} {m m' : Md} {α : Type} {val : α → Value} {k0 : Ck} {Kr : α → List Ck} {f : FuncId} [T : FnOk P f] {xs : Array Operand} {ts : Array TypeId} {vs : List Value} (hN : d < N := by decide) (hx : Opds N F true xs.toList vs := by exact opx) (hp : Pick K k0 K' := by exact pk) (h : ∀ w, KOk w0 (k0 :: K') w → Calls P f vs.toArray w (RetK val Kr w0)) (k : ∀ z, HG P N w0 ops Q m' rest ((d, .pl (val z)) :: F) (Kr z)) (hX : NX m m' := by first | exact NX.l | exact NX.q | exact NX.x _ _ _ _ | exact NX.y _ _ _ _) (hA : KA ops m := by first | exact KA.l | exact KA.y | exact KA.x (by decide +kernel)) (hB : ∀ z, KB ops m (Kr z) := by first | exact fun _ => KB.l | exact fun _ => KB.x (Or.inr ks) | exact fun _ => KB.x (Or.inl (by decide +kernel)) | exact fun _ => KB.y (Or.inr ks) | exact fun _ => KB.y (Or.inl (by decide +kernel))) :
    HG P N w0 ops Q m (⟨some d, .call { callee := .value (.func f), args := xs, argTypes := ts }, ty, pos, af, none⟩ :: rest) F K := ck hN hx (fun w hw => h w (hw.pick hp)) k hX hA hB
theorem wx {α : Type} {p : α → Prop} {G : Prop} (h : ∃ x, p x) (k : ∀ x, p x → G) : G := by obtain ⟨x, hx⟩ := h; exact k x hx
theorem wy {a G : Prop} (h : a) (k : a → G) : G := k h
end E
end Go.Proofs.Ytjdagbicjhmeeaa
