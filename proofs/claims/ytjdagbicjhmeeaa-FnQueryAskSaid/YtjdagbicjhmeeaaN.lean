/- The engine, second edition, third part: rows whose elements hold slices themselves; beginnings of slices. -/
import Derived.Test.YtjdagbicjhmeeaaH
namespace Go.Proofs.Ytjdagbicjhmeeaa
namespace E
set_option linter.unusedSimpArgs false
set_option linter.unusedVariables false
open Go Go.RowKit
/-- A slice value, as a cell. -/
structure Sv where
  a : Option Addr
  n : Nat
  c : Nat
def Sv.val (s : Sv) : Value := .slice s.a s.n s.c
/-- An own row's value is a slice. -/
theorem ownF_sv {α : Type} [Flat α] {w0 w : World} {K : List Ck} {v : Value} {e : TypeId} {xs : List α} (hm : ownF e v xs ∈ K) (hK : KOk w0 K w) : ∃ s : Sv, v = .slice s.a s.n s.c := by
  have h := hK.holds _ hm
  unfold ownF at h
  rcases h.2 with ⟨rfl, _⟩ | ⟨g, cap, cur, rfl, _⟩
  · exact ⟨⟨none, 0, 0⟩, rfl⟩
  · exact ⟨⟨_, _, _⟩, rfl⟩
theorem calls_sv {P : Program} {α : Type} [Flat α] {f : FuncId} {args : Array Value} {w : World} {e : TypeId} {xs : List α} (h : Calls P f args w (Ret (fun v : Value => v) (fun v => [ownF e v xs]) w)) :
    Calls P f args w (Ret (fun s : Sv => .slice s.a s.n s.c) (fun s => [ownF e (.slice s.a s.n s.c) xs]) w) := h.mono fun en w' ⟨v, he, hk⟩ => by
  obtain ⟨s, rfl⟩ := ownF_sv (List.mem_singleton.2 rfl) hk
  exact ⟨s, he, hk⟩
/-- Data that hold a list each (β), and the raw rows that stand for them. -/
class Nst (D : Type) (R β : outParam Type) where
  sv : R → Sv
  ls : D → List β
  eqv : R → D → Prop
section
variable {D R β : Type} [N : Nst D R β]
def Match (xs : List R) (ds : List D) : Prop := xs.length = ds.length ∧ ∀ (i : Nat) (x : R) (d : D), xs[i]? = some x → ds[i]? = some d → Nst.eqv x d
theorem Match.nil : Match ([] : List R) ([] : List D) := ⟨rfl, fun i x d h => by simp at h⟩
theorem Match.snoc {xs : List R} {ds : List D} {k : Nat} {d : D} {x : R} (h : Match xs (ds.take k)) (hd : ds[k]? = some d) (hx : N.eqv x d) : Match (xs ++ [x]) (ds.take (k + 1)) := by
  have hk : k < ds.length := (List.getElem?_eq_some_iff.1 hd).1
  have hl : xs.length = k := by rw [h.1, List.length_take]; omega
  refine ⟨by simp [hl]; omega, fun i y u hy hu => ?_⟩
  rcases Nat.lt_or_ge i k with hi | hi
  · rw [List.getElem?_append_left (by omega)] at hy
    rw [List.getElem?_take_of_lt (by omega)] at hu
    exact h.2 i y u hy (by rw [List.getElem?_take_of_lt hi]; exact hu)
  · have hi2 : i < (ds.take (k + 1)).length := (List.getElem?_eq_some_iff.1 hu).1
    have : i = k := by rw [List.length_take] at hi2; omega
    subst this
    rw [List.getElem?_append_right (by omega), hl, Nat.sub_self] at hy
    rw [List.getElem?_take_of_lt (by omega), hd] at hu
    simp only [List.getElem?_cons_zero, Option.some.injEq] at hy hu
    subst hy; subst hu
    exact hx
end
section
variable {D R β : Type} [Flat β] [N : Nst D R β]
/-- The inner rows. -/
def inn (e : TypeId) (xs : List R) (ds : List D) : List Ck := (xs.zip ds).map fun p => ownF e (.slice (N.sv p.1).a (N.sv p.1).n (N.sv p.1).c) (N.ls p.2)
theorem inn_snoc {e : TypeId} {xs : List R} {ds : List D} {k : Nat} {d : D} {x : R} (h : Match xs (ds.take k)) (hd : ds[k]? = some d) : inn e (xs ++ [x]) (ds.take (k + 1)) = inn e xs (ds.take k) ++ [ownF e (.slice (N.sv x).a (N.sv x).n (N.sv x).c) (N.ls d)] := by
  unfold inn
  rw [List.take_add_one, hd, List.zip_append h.1]
  simp
end
section
variable {D R β : Type} [Flat R] [Flat β] [N : Nst D R β]
/-- The slice v reads as the data ds, each with a list of its own. -/
def RdN (w : World) (v : Value) (ds : List D) : Prop := ∃ xs : List R, RdF w v xs ∧ Match xs ds ∧ ∀ (i : Nat) (x : R) (d : D), xs[i]? = some x → ds[i]? = some d → RdF w (.slice (N.sv x).a (N.sv x).n (N.sv x).c) (N.ls d)
theorem RdN.now {w0 w : World} {K : List Ck} {v : Value} {ds : List D} (h : RdN w0 v ds) (hw : KOk w0 K w) : RdN w v ds := by
  obtain ⟨xs, h1, h2, h3⟩ := h
  exact ⟨xs, h1.now hw, h2, fun i x t hx ht => (h3 i x t hx ht).now hw⟩
theorem RdN.one {w : World} {v : Value} {ds : List D} (h : RdN w v ds) : v.oneCell' = true := by
  obtain ⟨xs, h1, _⟩ := h
  exact h1.one
theorem RdN.le {w : World} {v : Value} {ds : List D} (h : RdN w v ds) : ds.length ≤ maxLen := by
  obtain ⟨xs, h1, h2, _⟩ := h
  rw [← h2.1]
  exact h1.le
theorem RdN.nil (w : World) : RdN w (.slice none 0 0) ([] : List D) := ⟨[], RdF.nil w, Match.nil, fun i x d h => by simp at h⟩
theorem RdN.of_own {w0 w : World} {K : List Ck} {v : Value} {xs : List R} {ds : List D} {e0 e : TypeId} (hw : KOk w0 K w) (hM : Match xs ds) (hm : ownF e0 v xs ∈ K) (hs : ∀ k ∈ inn e xs ds, k ∈ K) : RdN w v ds := by
  refine ⟨xs, RdF.of_own hm hw, hM, fun i x t hx ht => RdF.of_own (e := e) (hs _ ?_) hw⟩
  unfold inn
  refine List.mem_map.2 ⟨(x, t), ?_, rfl⟩
  exact List.mem_of_getElem? (i := i) (by simp [List.getElem?_zip_eq_some, hx, ht])
end
/-- All of L are in K. -/
inductive InK : List Ck → List Ck → Prop where
  | here (L K : List Ck) : InK L (L ++ K)
  | all (L : List Ck) : InK L L
  | skip {L M K : List Ck} (h : InK L K) : InK L (M ++ K)
  | tail {L K : List Ck} {k : Ck} (h : InK L K) : InK L (k :: K)
theorem InK.mem {L K : List Ck} (h : InK L K) : ∀ k ∈ L, k ∈ K := by
  induction h with
  | here K => exact fun k hk => List.mem_append_left _ hk
  | all => exact fun k hk => hk
  | skip _ ih => exact fun k hk => List.mem_append_right _ (ih k hk)
  | tail _ ih => exact fun k hk => List.mem_cons_of_mem _ (ih k hk)
theorem ink {L K : List Ck} (h : InK L K := by (repeat (first | exact InK.here _ _ | exact InK.all _ | apply InK.tail | apply InK.skip)); first | done | fail) : InK L K := h
theorem RdN.ofK {D R β : Type} [Flat R] [Flat β] [N : Nst D R β] {w0 w : World} {K : List Ck} {v : Value} {xs : List R} {ds : List D} {e0 e : TypeId} (hw : KOk w0 K w) (hm : ownF e0 v xs ∈ K := by exact mm) (hM : Match xs ds := by assumption) (hs : InK (inn e xs ds) K := by exact ink) : RdN w v ds := RdN.of_own hw hM hm hs.mem
/-- A nested row that a callee reads. -/
theorem rdN {D R β : Type} [Flat R] [Flat β] [N : Nst D R β] {w : World} {v : Value} {ds : List D} (h : RdN w v ds := by first | assumption | exact RdN.now (by assumption) (by assumption) | exact RdN.ofK (by assumption) | exact RdN.nil _) : RdN w v ds := h
theorem Pick.mid : ∀ (s t : List Ck) (k : Ck), Pick (s ++ k :: t) k (s ++ t)
  | [], t, k => .here k t
  | x :: s, t, k => .there x k _ _ (Pick.mid s t k)
theorem KSub.ofPerm : ∀ (K' K : List Ck), K.Perm K' → KSub K K'
  | [], K, _ => .nil K
  | k :: K2, K, h => by
    obtain ⟨s, t, rfl⟩ := List.append_of_mem (h.mem_iff.2 List.mem_cons_self)
    have h2 : (s ++ t).Perm K2 := List.Perm.cons_inv ((List.perm_middle).symm.trans h)
    exact .pick (Pick.mid s t k) (KSub.ofPerm K2 _ h2)

/-! ### The beginning of a slice -/
def pre (v : Value) (m : Nat) : Value := match v with
  | .slice a _ c => .slice a m c
  | v => v
theorem adr_len (A : Option Addr) (n m c : Nat) : adr (.slice A n c) = adr (.slice A m c) := by cases A <;> rfl
theorem Rd.pre {w : World} {B sz n m : Nat} {v : Value} {cs : List Value} (h : Rd w B sz v n cs) (hm : m ≤ n) : Rd w B sz (E.pre v m) m (cs.take (m * sz)) := by
  obtain ⟨A, c, rfl, h1, h2, h3⟩ := h.sl
  have hle : m * sz ≤ n * sz := Nat.mul_le_mul_right _ hm
  have hl := h.len
  refine ⟨⟨A, c, rfl, by omega, h2, fun h0 => h3 (by omega)⟩, by rw [List.length_take]; omega, fun h0 => ?_, fun j u hj => ?_⟩
  · have := h.blk (by omega)
    rw [adr_len A n m] at this
    exact this
  · have hjl : j < m * sz := by
      have := (List.getElem?_eq_some_iff.1 hj).1
      simp at this; omega
    rw [List.getElem?_take_of_lt hjl] at hj
    have := h.cell j u hj
    rw [adr_len A n m] at this
    exact this
theorem cells_take {α : Type} [Flat α] (xs : List α) (m : Nat) (hm : m ≤ xs.length) : cells (xs.take m) = (cells xs).take (m * Flat.k α) := by
  have h1 : cells xs = cells (xs.take m) ++ cells (xs.drop m) := by rw [← cells_append, List.take_append_drop]
  have h2 : (cells (xs.take m)).length = m * Flat.k α := by rw [cells_length, List.length_take, Nat.min_eq_left hm]
  rw [h1, ← h2, List.take_left']
  rfl
theorem RdF.pre {α : Type} [Flat α] {w : World} {v : Value} {xs : List α} (h : RdF w v xs) {m : Nat} (hm : m ≤ xs.length) : RdF w (E.pre v m) (xs.take m) := by
  have h1 := Rd.pre h hm
  unfold RdF
  rw [cells_take _ _ hm, List.length_take, Nat.min_eq_left hm]
  exact h1
section
variable {P : Program} {N : Nat} {w0 : World} {K K' Kp : List Ck} {F F' : List (Nat × En)} {c : Bool} {Q : Exit → Act → World → Prop} {ops : Array Oper} {rest : List Oper} {d : Nat} {dd : Option Tmp} {ty : TypeId} {pos : String} {af : Array Edge} {gd : Option (Nat × Bool)}
variable {x y ix : Operand} {t t' : TypeId} {u v : Value} {o : Oper} {Kn : Act → World → Prop} {m m' : Md} {e : En} {gk : Bool}
/-- xs[:i] -/
theorem a_pre {n k sz : Nat} {i : Int} {kd : IntKind} {el : TypeId} [T : TSlc P t el] [S : TSize P el sz] (h : Opd N F c x v := by first | exact Opd.pl rfl | exact Opd.gd rfl (fun h => h)) (hv : Sl w0 K v n := by first | exact Sl.rdF (by assumption) | exact Sl.ownF mm | exact Sl.is (by assumption)) (hi : Opd N F c ix (.int kd i) := by first | exact Opd.pl rfl | exact Opd.gd rfl (fun h => h)) (hk : c = true → i = (k : Int) ∧ k ≤ n := by first | exact (fun _ => ⟨rfl, by omega⟩) | exact (fun _ => ⟨(Int.toNat_of_nonneg (by omega)).symm, by omega⟩)) :
    YV P N w0 K F c ⟨dd, .slice t x none (some ix) none, ty, pos, af, gd⟩ (pre v k) := fun a w ha hc hw => by
  obtain ⟨rfl, hlt⟩ := hk hc
  obtain ⟨A, cp, rfl, h1, h2, _⟩ := hv w hw
  have h0 := h a ha hc
  have hle : (k : Int) ≤ cp := by omega
  have hA : (if cp = 0 then A else A.map (fun b => b.add 0)) = A := by
    split
    · rfl
    · cases A <;> rfl
  simp [execOp, h0, hi a ha hc, Instr.sliceAt, Instr.slice, Instr.sliceBounds, Instr.sliceBound, asIntOf, run_underlying T.is, S.size, pre, hlt, show k ≤ cp by omega]
  intro _; cases A <;> rfl
/-! ### Loads and their like, with chunks behind lists of chunks -/
theorem a_loadM {p : Value} [T : TOne P t] (h : Opd N F c x p := by first | exact Opd.pl rfl | exact Opd.gd rfl (fun h => h)) (hl : Ld w0 K c p [v] := by first | exact Ld.box1 mm rfl | exact Ld.ownS mm (by first | assumption | exact (fun _ => by assumption)) (by rfl) (by rfl)) : YV P N w0 K F c ⟨dd, .load t x, ty, pos, af, gd⟩ v := y_load h hl
theorem a_load_aggM {p : Value} {vs : List Value} {n : Nat} [T : TAgg P t n] (h : Opd N F c x p := by first | exact Opd.pl rfl | exact Opd.gd rfl (fun h => h)) (hl : LdC w0 K c p n vs := by first | exact LdC.box mm sbc | exact LdC.ownS mm (by first | assumption | exact (fun _ => by assumption)) (by rfl) sbc) : YV P N w0 K F c ⟨dd, .load t x, ty, pos, af, gd⟩ (.agg vs.toArray) := y_load_agg h hl.1 hl.2
theorem a_lenM {n : Nat} {e : TypeId} [T : TSlc P t e] (h : Opd N F c x v := by first | exact Opd.pl rfl | exact Opd.gd rfl (fun h => h)) (hv : Sl w0 K v n := by exact Sl.ownF mm) : YV P N w0 K F c ⟨dd, .call { callee := .builtin .len, args := #[x], argTypes := #[t] }, ty, pos, af, gd⟩ (.int .i64 (n : Int)) := y_len h hv
theorem a_idxM {n sz k : Nat} {i : Int} {e : TypeId} {kd : IntKind} [T : TSlc P t e] [S : TSize P e sz] (h : Opd N F c x v := by first | exact Opd.pl rfl | exact Opd.gd rfl (fun h => h)) (hv : Sl w0 K v n := by exact Sl.ownF mm) (hi : Opd N F c ix (.int kd i) := by first | exact Opd.pl rfl | exact Opd.gd rfl (fun h => h))
    (hk : c = true → i = (k : Int) ∧ k < n := by first | exact (fun _ => ⟨rfl, by omega⟩) | (intro hcc; simp only [Bool.and_eq_true, Bool.or_eq_true, Bool.not_eq_true', decide_eq_true_eq, decide_eq_false_iff_not] at hcc; exact ⟨rfl, by omega⟩) | (intro hcc; (try simp only [Bool.and_eq_true, Bool.or_eq_true, Bool.not_eq_true', decide_eq_true_eq, decide_eq_false_iff_not] at hcc); exact ⟨(Int.toNat_of_nonneg (by omega)).symm, by omega⟩)) :
    YV P N w0 K F c ⟨dd, .indexAddr t x ix, ty, pos, af, gd⟩ (eptr v sz k 0) := y_idx h hv hi hk
theorem q2 {Kq : List Ck} (hr : HG P N w0 ops Q m' rest ((d, e) :: F) K) (hd : o.dst = some d := by rfl) (hN : d < N := by decide) (hG : GE N F ops o.guard c gk := by first | exact GE.n | exact GE.s (by first | exact GV.pt rfl rfl | exact GV.pf rfl rfl | exact GV.gt rfl rfl | exact GV.gf rfl rfl)) (hX : NX m m' := by first | exact NX.l | exact NX.q | exact NX.x _ _ _ _ | exact NX.y _ _ _ _) (hQ : KQ ops K m Kq := by first | exact KQ.l | exact KQ.q | exact KQ.x (by decide +kernel) ks) (hy : YV P N w0 Kq F c o v := by first | exact a_loadM | exact a_load_aggM | exact a_lenM | exact a_idxM | exact a_pre) (he : IE gk c v e := by first | exact IE.n _ _ | exact IE.s _ _) : HG P N w0 ops Q m (o :: rest) F K := hgv hd hN hG hQ hX hy he hr
end
end E
end Go.Proofs.Ytjdagbicjhmeeaa
