/- The engine, second edition, fourth part: parts of slices; slices that read under chunks; bytes and texts. -/
import Derived.Test.YtjdagbicjhmeeaaN
namespace Go.Proofs.Ytjdagbicjhmeeaa
namespace E
set_option linter.unusedSimpArgs false
set_option linter.unusedVariables false
open Go Go.RowKit
instance : Flat UInt8 := ⟨1, fun i => [.int .u8 (i.toNat : Int)], fun _ => rfl, fun _ u h => by simp only [List.mem_cons, List.mem_nil_iff, or_false] at h; subst h; rfl⟩
/-! ### Parts of slices -/
def part (v : Value) (sz i j : Nat) : Value := match v with
  | .slice a _ c => .slice (if c = i then a else a.map (fun b => b.add (i * sz))) (j - i) (c - i)
  | v => v
theorem Rd.part {w : World} {B sz n i j : Nat} {v : Value} {cs : List Value} (h : Rd w B sz v n cs) (hi : i ≤ j) (hj : j ≤ n) : Rd w B sz (E.part v sz i j) (j - i) ((cs.drop (i * sz)).take ((j - i) * sz)) := by
  obtain ⟨A, c, rfl, h1, h2, h3⟩ := h.sl
  have hl := h.len
  have m1 : j * sz ≤ n * sz := Nat.mul_le_mul_right _ hj
  have m2 : (j - i) * sz = j * sz - i * sz := Nat.sub_mul j i sz
  have m3 : i * sz ≤ j * sz := Nat.mul_le_mul_right _ hi
  have hadr : i < j → E.adr (E.part (.slice A n c) sz i j) = (E.adr (.slice A n c)).add (i * sz) := fun hij => by
    obtain ⟨a, rfl⟩ := h3 (by omega)
    simp only [E.part]
    rw [if_neg (by omega)]
    rfl
  refine ⟨⟨_, _, rfl, by omega, by omega, fun h0 => ?_⟩, by rw [List.length_take, List.length_drop]; omega, fun h0 => ?_, fun k u hk => ?_⟩
  · obtain ⟨a, rfl⟩ := h3 (by omega)
    rw [if_neg (by omega)]
    exact ⟨_, rfl⟩
  · rw [hadr (by omega), block_of_add]
    exact h.blk (by omega)
  · have hkl : k < (j - i) * sz := by
      have := (List.getElem?_eq_some_iff.1 hk).1
      simp at this; omega
    have hij : i < j := by
      rcases Nat.lt_or_ge i j with h | h
      · exact h
      · rw [show j - i = 0 by omega] at hkl; omega
    rw [List.getElem?_take_of_lt hkl, List.getElem?_drop] at hk
    have := h.cell _ u hk
    rw [hadr hij, add_of_add]
    exact this
theorem cells_drop {α : Type} [Flat α] (xs : List α) (m : Nat) (hm : m ≤ xs.length) : cells (xs.drop m) = (cells xs).drop (m * Flat.k α) := by
  have h1 : cells xs = cells (xs.take m) ++ cells (xs.drop m) := by rw [← cells_append, List.take_append_drop]
  have h2 : (cells (xs.take m)).length = m * Flat.k α := by rw [cells_length, List.length_take, Nat.min_eq_left hm]
  rw [h1, ← h2, List.drop_left']
  rfl
theorem RdF.part {α : Type} [Flat α] {w : World} {v : Value} {xs : List α} (h : RdF w v xs) {i j : Nat} (hi : i ≤ j) (hj : j ≤ xs.length) : RdF w (E.part v (Flat.k α) i j) ((xs.drop i).take (j - i)) := by
  have h1 := Rd.part h hi hj
  have hl : ((xs.drop i).take (j - i)).length = j - i := by rw [List.length_take, List.length_drop]; omega
  unfold RdF
  rw [hl, cells_take _ _ (by rw [List.length_drop]; omega), cells_drop _ _ (by omega)]
  exact h1
theorem RdF.isl {α : Type} [Flat α] {w : World} {v : Value} {xs : List α} (h : RdF w v xs) : IsSl v xs.length := h.sl
theorem RdF.suf {α : Type} [Flat α] {w : World} {v : Value} {xs : List α} (h : RdF w v xs) {i : Nat} (hi : i ≤ xs.length) : RdF w (E.part v (Flat.k α) i xs.length) (xs.drop i) := by
  have := h.part hi (Nat.le_refl _)
  rwa [List.take_of_length_le (by rw [List.length_drop]; omega)] at this
section
variable {P : Program} {N : Nat} {w0 : World} {K K' Kp : List Ck} {F F' : List (Nat × En)} {c : Bool} {Q : Exit → Act → World → Prop} {ops : Array Oper} {rest : List Oper} {d : Nat} {dd : Option Tmp} {ty : TypeId} {pos : String} {af : Array Edge} {gd : Option (Nat × Bool)}
variable {x y ix iy : Operand} {t t' : TypeId} {u v : Value} {o : Oper} {Kn : Act → World → Prop} {m m' : Md} {e : En} {gk : Bool}
theorem RdIn.suf {α : Type} [Flat α] {v : Value} {xs : List α} (h : RdIn w0 K v xs) {i : Nat} (hi : i ≤ xs.length) : RdIn w0 K (E.part v (Flat.k α) i xs.length) (xs.drop i) := fun w hw => (h w hw).suf hi
theorem RdIn.part {α : Type} [Flat α] {v : Value} {xs : List α} (h : RdIn w0 K v xs) {i j : Nat} (hi : i ≤ j) (hj : j ≤ xs.length) : RdIn w0 K (E.part v (Flat.k α) i j) ((xs.drop i).take (j - i)) := fun w hw => (h w hw).part hi hj
theorem RdIn.pre {α : Type} [Flat α] {v : Value} {xs : List α} (h : RdIn w0 K v xs) {i : Nat} (hi : i ≤ xs.length) : RdIn w0 K (E.pre v i) (xs.take i) := fun w hw => (h w hw).pre hi
theorem Sl.rdIn {α : Type} [Flat α] {L : List Ck} {v : Value} {xs : List α} (h : RdIn w0 L v xs) (hs : SubL K L := by exact subl) : Sl w0 K v xs.length := fun w hw => (h w (hw.sub hs.ksub)).sl
theorem Ld.rdIn {α : Type} [Flat α] {L : List Ck} {v : Value} {xs : List α} {k j : Nat} {x : α} {us : List Value} (h : RdIn w0 L v xs) (hs : SubL K L) (hx : c = true → xs[k]? = some x) (hj : SubN (Flat.f x) j us) : Ld w0 K c (eptr v (Flat.k α) k j) us := fun hc =>
  ⟨_, rfl, fun w hw i u hu => by
    have h1 := h w (hw.sub hs.ksub)
    rw [add_of_add, Nat.add_assoc]
    exact h1.cell _ _ (cells_get xs k (j + i) x u (hx hc) (hj.get i u hu))⟩
theorem LdC.rdIn {α : Type} [Flat α] {L : List Ck} {v : Value} {xs : List α} {sz k j n : Nat} {x : α} {us : List Value} (h : RdIn w0 L v xs) (hs : SubL K L) (hx : c = true → xs[k]? = some x) (hsz : Flat.k α = sz) (hj : SubC (Flat.f x) j n us) : LdC w0 K c (eptr v sz k j) n us := by subst hsz; exact ⟨Ld.rdIn h hs hx hj.sub.1, hj.sub.2⟩
theorem subN1 {cs : List Value} {j : Nat} {u : Value} (h : cs[j]? = some u) : SubN cs j [u] := by
  induction cs generalizing j with
  | nil => simp at h
  | cons c cs ih =>
    cases j with
    | zero => simp only [List.getElem?_cons_zero, Option.some.injEq] at h; subst h; exact .here _ _ _ (.nil _)
    | succ j => exact .there _ _ _ _ (ih (by simpa using h))
theorem Ld.rdIn1 {α : Type} [Flat α] {L : List Ck} {v : Value} {xs : List α} {sz k j : Nat} {x : α} {u : Value} (h : RdIn w0 L v xs) (hs : SubL K L) (hx : c = true → xs[k]? = some x) (hsz : Flat.k α = sz) (hj : (Flat.f x)[j]? = some u) : Ld w0 K c (eptr v sz k j) [u] := by
  subst hsz
  exact Ld.rdIn h hs hx (subN1 hj)
/-- What a slice under chunks holds. -/
theorem a_loadJ {p : Value} [T : TOne P t] (h : Opd N F c x p := by first | exact Opd.pl rfl | exact Opd.gd rfl (fun h => h)) (hl : Ld w0 K c p [v] := by exact Ld.rdIn1 (by assumption) subl (by first | assumption | exact (fun _ => by assumption)) (by rfl) (by rfl)) : YV P N w0 K F c ⟨dd, .load t x, ty, pos, af, gd⟩ v := y_load h hl
theorem a_load_aggJ {p : Value} {vs : List Value} {n : Nat} [T : TAgg P t n] (h : Opd N F c x p := by first | exact Opd.pl rfl | exact Opd.gd rfl (fun h => h)) (hl : LdC w0 K c p n vs := by exact LdC.rdIn (by assumption) subl (by first | assumption | exact (fun _ => by assumption)) (by rfl) sbc) : YV P N w0 K F c ⟨dd, .load t x, ty, pos, af, gd⟩ (.agg vs.toArray) := y_load_agg h hl.1 hl.2
theorem a_lenJ {n : Nat} {e : TypeId} [T : TSlc P t e] (h : Opd N F c x v := by first | exact Opd.pl rfl | exact Opd.gd rfl (fun h => h)) (hv : Sl w0 K v n := by exact Sl.rdIn (by assumption)) : YV P N w0 K F c ⟨dd, .call { callee := .builtin .len, args := #[x], argTypes := #[t] }, ty, pos, af, gd⟩ (.int .i64 (n : Int)) := y_len h hv
theorem a_idxJ {n sz k : Nat} {i : Int} {e : TypeId} {kd : IntKind} [T : TSlc P t e] [S : TSize P e sz] (h : Opd N F c x v := by first | exact Opd.pl rfl | exact Opd.gd rfl (fun h => h)) (hv : Sl w0 K v n := by exact Sl.rdIn (by assumption)) (hi : Opd N F c ix (.int kd i) := by first | exact Opd.pl rfl | exact Opd.gd rfl (fun h => h))
    (hk : c = true → i = (k : Int) ∧ k < n := by first | exact (fun _ => ⟨rfl, by omega⟩) | (intro hcc; simp only [Bool.and_eq_true, Bool.or_eq_true, Bool.not_eq_true', decide_eq_true_eq, decide_eq_false_iff_not] at hcc; exact ⟨rfl, by omega⟩) | (intro hcc; (try simp only [Bool.and_eq_true, Bool.or_eq_true, Bool.not_eq_true', decide_eq_true_eq, decide_eq_false_iff_not] at hcc); exact ⟨(Int.toNat_of_nonneg (by omega)).symm, by omega⟩)) :
    YV P N w0 K F c ⟨dd, .indexAddr t x ix, ty, pos, af, gd⟩ (eptr v sz k 0) := y_idx h hv hi hk
/-- xs[i:] -/
theorem a_suf {n k sz : Nat} {i : Int} {kd : IntKind} {el : TypeId} [T : TSlc P t el] [S : TSize P el sz] (h : Opd N F c x v := by first | exact Opd.pl rfl | exact Opd.gd rfl (fun h => h)) (hv : Sl w0 K v n := by first | exact Sl.rdF (by assumption) | exact Sl.ownF mm | exact Sl.rdIn (by assumption) | exact Sl.is (by assumption)) (hi : Opd N F c ix (.int kd i) := by first | exact Opd.pl rfl | exact Opd.gd rfl (fun h => h)) (hk : c = true → i = (k : Int) ∧ k ≤ n := by first | exact (fun _ => ⟨rfl, by omega⟩) | exact (fun _ => ⟨(Int.toNat_of_nonneg (by omega)).symm, by omega⟩)) :
    YV P N w0 K F c ⟨dd, .slice t x (some ix) none none, ty, pos, af, gd⟩ (part v sz k n) := fun a w ha hc hw => by
  obtain ⟨rfl, hlt⟩ := hk hc
  obtain ⟨A, cp, rfl, h1, h2, _⟩ := hv w hw
  have h0 := h a ha hc
  simp [execOp, h0, hi a ha hc, Instr.sliceAt, Instr.slice, Instr.sliceBounds, Instr.sliceBound, asIntOf, run_underlying T.is, S.size, part, hlt, h1]
/-- xs[i:j] -/
theorem a_mid {n k l sz : Nat} {i j : Int} {kd kd' : IntKind} {el : TypeId} [T : TSlc P t el] [S : TSize P el sz] (h : Opd N F c x v := by first | exact Opd.pl rfl | exact Opd.gd rfl (fun h => h)) (hv : Sl w0 K v n := by first | exact Sl.rdF (by assumption) | exact Sl.ownF mm | exact Sl.rdIn (by assumption) | exact Sl.is (by assumption)) (hi : Opd N F c ix (.int kd i) := by first | exact Opd.pl rfl | exact Opd.gd rfl (fun h => h)) (hj : Opd N F c iy (.int kd' j) := by first | exact Opd.pl rfl | exact Opd.gd rfl (fun h => h)) (hk : c = true → i = (k : Int) ∧ j = (l : Int) ∧ k ≤ l ∧ l ≤ n := by first | exact (fun _ => ⟨rfl, rfl, by omega, by omega⟩)) :
    YV P N w0 K F c ⟨dd, .slice t x (some ix) (some iy) none, ty, pos, af, gd⟩ (part v sz k l) := fun a w ha hc hw => by
  obtain ⟨rfl, rfl, hlt, hl2⟩ := hk hc
  obtain ⟨A, cp, rfl, h1, h2, _⟩ := hv w hw
  have h0 := h a ha hc
  simp [execOp, h0, hi a ha hc, hj a ha hc, Instr.sliceAt, Instr.slice, Instr.sliceBounds, Instr.sliceBound, asIntOf, run_underlying T.is, S.size, part, hlt, show l ≤ cp by omega]
theorem a_preJ {n k sz : Nat} {i : Int} {kd : IntKind} {el : TypeId} [T : TSlc P t el] [S : TSize P el sz] (h : Opd N F c x v := by first | exact Opd.pl rfl | exact Opd.gd rfl (fun h => h)) (hv : Sl w0 K v n := by exact Sl.rdIn (by assumption)) (hi : Opd N F c ix (.int kd i) := by first | exact Opd.pl rfl | exact Opd.gd rfl (fun h => h)) (hk : c = true → i = (k : Int) ∧ k ≤ n := by first | exact (fun _ => ⟨rfl, by omega⟩) | exact (fun _ => ⟨(Int.toNat_of_nonneg (by omega)).symm, by omega⟩)) :
    YV P N w0 K F c ⟨dd, .slice t x none (some ix) none, ty, pos, af, gd⟩ (pre v k) := a_pre h hv hi hk
/-- Quiet operations on slices under chunks. -/
theorem q3 {Kq : List Ck} (hr : HG P N w0 ops Q m' rest ((d, e) :: F) K) (hd : o.dst = some d := by rfl) (hN : d < N := by decide) (hG : GE N F ops o.guard c gk := by first | exact GE.n | exact GE.s (by first | exact GV.pt rfl rfl | exact GV.pf rfl rfl | exact GV.gt rfl rfl | exact GV.gf rfl rfl)) (hX : NX m m' := by first | exact NX.l | exact NX.q | exact NX.x _ _ _ _ | exact NX.y _ _ _ _) (hQ : KQ ops K m Kq := by first | exact KQ.l | exact KQ.q | exact KQ.x (by decide +kernel) ks) (hy : YV P N w0 Kq F c o v := by first | exact a_loadJ | exact a_load_aggJ | exact a_lenJ | exact a_idxJ | exact a_suf | exact a_mid | exact a_preJ) (he : IE gk c v e := by first | exact IE.n _ _ | exact IE.s _ _) : HG P N w0 ops Q m (o :: rest) F K := hgv hd hN hG hQ hX hy he hr
/-! ### A row of the call's own, cut -/
theorem KOk.pre {α : Type} [Flat α] {w : World} {xs : List α} {e : TypeId} {k : Nat} (h : KOk w0 (ownF e v xs :: K) w) (hk : k ≤ xs.length) : KOk w0 (ownF e (E.pre v k) (xs.take k) :: K) w := by
  have hh := h.holds _ List.mem_cons_self
  have hl : (xs.take k).length = k := by rw [List.length_take, Nat.min_eq_left hk]
  have hle : k * Flat.k α ≤ xs.length * Flat.k α := Nat.mul_le_mul_right _ hk
  unfold ownF at hh
  obtain ⟨h1, h2⟩ := hh
  rcases h2 with ⟨rfl, h0⟩ | ⟨g, cap, cur, rfl, hB, hb, hc, hm, hz, ht⟩
  · refine h.turn_nil (Below.refl _ _) ?_ (fun g' hg' => by simp [ownF, Ck.blk, E.pre, Value.ownBlock] at hg')
    have hk0 : k = 0 := by omega
    subst hk0
    exact ⟨cells_length _, Or.inl ⟨rfl, by simp⟩⟩
  · refine h.turn rfl (World.grownBy.refl w _) ?_ (Or.inl rfl)
    refine ⟨cells_length _, Or.inr ⟨g, cap, cur, by rw [hl]; rfl, hB, hb, by omega, hm, hz, ?_⟩⟩
    rw [hl, cells_take _ _ hk, ← ht, List.take_take, Nat.min_eq_left hle]
/-- xs[:i] of a row of the call's own, which goes on as that. -/
theorem spre {α : Type} [Flat α] {xs : List α} {e el : TypeId} {k sz : Nat} {i : Int} {kd : IntKind} [T : TSlc P t el] [S : TSize P el sz] (hr : HG P N w0 ops Q m' rest ((d, .pl (pre v k)) :: F) (ownF e (pre v k) (xs.take k) :: K')) (hN : d < N := by decide) (h : Opd N F true x v := by exact Opd.pl rfl) (hi : Opd N F true ix (.int kd i) := by exact Opd.pl rfl) (hp : Pick K (ownF e v xs) K' := by exact pk) (hk : i = (k : Int) ∧ k ≤ xs.length := by first | exact ⟨rfl, by omega⟩ | exact ⟨(Int.toNat_of_nonneg (by omega)).symm, by omega⟩) (hX : NX m m' := by first | exact NX.l | exact NX.q | exact NX.x _ _ _ _ | exact NX.y _ _ _ _) (hA : KA ops m := by first | exact KA.l | exact KA.y | exact KA.x (by decide +kernel)) (hB : ∀ (_ : Unit), KB ops m (ownF e (pre v k) (xs.take k) :: K') := by first | exact fun _ => KB.l | exact fun _ => KB.x (Or.inr ks) | exact fun _ => KB.x (Or.inl (by decide +kernel)) | exact fun _ => KB.y (Or.inr ks) | exact fun _ => KB.y (Or.inl (by decide +kernel))) :
    HG P N w0 ops Q m (⟨some d, .slice t x none (some ix) none, ty, pos, af, none⟩ :: rest) F K := hgo (Fi := fun _ : Unit => (d, .pl (pre v k)) :: F) (Ki := fun _ => ownF e (pre v k) (xs.take k) :: K') hA hB hX rfl (fun _ => hr) (fun Q' Kn hk' a w ha hw => by
  obtain ⟨rfl, hlt⟩ := hk
  have hv : Sl w0 K v xs.length := Sl.ownF hp.mem
  obtain ⟨A, cp, rfl, h1, h2, _⟩ := hv w hw
  refine ho_val (pre (.slice A xs.length cp) k) w ?_ (hk' () _ _ (ha.put d (.pl _) _ hN rfl) ((hw.pick hp).pre hlt))
  simp [execOp, h a ha rfl, hi a ha rfl, Instr.sliceAt, Instr.slice, Instr.sliceBounds, Instr.sliceBound, asIntOf, run_underlying T.is, S.size, pre, hlt, show k ≤ cp by omega]
  intro _; cases A <;> rfl)
/-- append, of what reads under chunks. -/
theorem apI {α : Type} [Flat α] {e : TypeId} {xs ys : List α} {sz bytes : Nat} [T : TSlc P t e] [R : TRow P e sz bytes] (hx : Opd N F true x v := by exact Opd.pl rfl) (hy : Opd N F true y u := by exact Opd.pl rfl) (hp : Pick K (ownF e v xs) K' := by exact pk) (hs : RdIn w0 K' u ys) (hr : ∀ v', v'.oneCell' = true → HG P N w0 ops Q m' rest ((d, .pl v') :: F) (ownF e v' (xs ++ ys) :: K')) (hN : d < N := by decide) (hb : (xs.length + ys.length) * bytes ≤ 140737488355328 ∧ xs.length + ys.length ≤ maxLen := by first | (simp only [maxLen]; omega) | (simp only [List.length_append, List.length_cons, List.length_nil, maxLen] at *; omega)) (hsz : sz = Flat.k α := by rfl) (hX : NX m m' := by first | exact NX.l | exact NX.q | exact NX.x _ _ _ _ | exact NX.y _ _ _ _) (hA : KA ops m := by first | exact KA.l | exact KA.y | exact KA.x (by decide +kernel)) (hB : ∀ (z : { v' : Value // v'.oneCell' = true }), KB ops m (ownF e z.1 (xs ++ ys) :: K') := by first | exact fun _ => KB.l | exact fun _ => KB.x (Or.inr ks) | exact fun _ => KB.x (Or.inl (by decide +kernel)) | exact fun _ => KB.y (Or.inr ks) | exact fun _ => KB.y (Or.inl (by decide +kernel))) :
    HG P N w0 ops Q m (⟨some d, .call { callee := .builtin .append, args := #[x, y], argTypes := #[t, t] }, ty, pos, af, none⟩ :: rest) F K := ap hr hN hx hy hp hs hb hsz hX hA hB
/-! ### Bits -/
theorem run_xor {i j : Int} (hi : 0 ≤ i ∧ i < 9223372036854775808) (hj : 0 ≤ j ∧ j < 9223372036854775808) : ∃ v : Int, (∀ w, (Op.intBits .xor .i64 i j).run P w = .ok (.int .i64 v) w) ∧ 0 ≤ v ∧ v < 9223372036854775808 := by
  obtain ⟨a, rfl⟩ := Int.eq_ofNat_of_zero_le hi.1
  obtain ⟨b, rfl⟩ := Int.eq_ofNat_of_zero_le hj.1
  have ha : a < 2 ^ 63 := by omega
  have hb : b < 2 ^ 63 := by omega
  have hx : a ^^^ b < 2 ^ 63 := Nat.xor_lt_two_pow ha hb
  refine ⟨((a ^^^ b : Nat) : Int), fun w => ?_, by omega, by omega⟩
  have e : (BitVec.ofInt IntKind.i64.bits (a : Int) ^^^ BitVec.ofInt IntKind.i64.bits (b : Int)).toNat = a ^^^ b := by
    rw [BitVec.toNat_xor, BitVec.ofInt_natCast, BitVec.ofInt_natCast, BitVec.toNat_ofNat, BitVec.toNat_ofNat, show IntKind.i64.bits = 64 from rfl, Nat.mod_eq_of_lt (by omega), Nat.mod_eq_of_lt (by omega)]
  simp only [Op.intBits, e, Sem.run_pure]
  rw [wrap_i64_of (by omega)]
end
end E
end Go.Proofs.Ytjdagbicjhmeeaa
