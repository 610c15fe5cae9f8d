/- Data: what the program's values stand for (written by a program of this repo: gen_data2.py). -/
import Derived.Test.YtjdagbicjhmeeaaTy
import Derived.Test.YtjdagbicjhmeeaaN
namespace Go.Proofs.Ytjdagbicjhmeeaa
namespace E
open Go Go.RowKit
set_option linter.unusedSimpArgs false
set_option linter.unusedVariables false
set_option maxHeartbeats 1000000
set_option maxRecDepth 10000
attribute [local irreducible] HC HL HQ HX HO At Y YV Opd Opds KnX Sl Ld Src GV RV Calls Code.wp eptr adr RdF ownF OneX HG LdC
instance : Mx Try.prog := ⟨mixed⟩
instance : Flat Int := ⟨1, fun i => [.int .i64 i], fun _ => rfl, fun _ u h => by simp only [List.mem_cons, List.mem_nil_iff, or_false] at h; subst h; rfl⟩
instance : Mark Int := ⟨1, fun i => i⟩
instance (i : Int) : MkI Int [.int .i64 i] i := ⟨rfl⟩
instance : ElT Try.prog 3 Int := ⟨trivial⟩
instance : Flat Bool := ⟨1, fun i => [.bool i], fun _ => rfl, fun _ u h => by simp only [List.mem_cons, List.mem_nil_iff, or_false] at h; subst h; rfl⟩
instance (i : Bool) : MkI Bool [.bool i] i := ⟨rfl⟩
instance : Flat ByteArray := ⟨1, fun i => [.string i], fun _ => rfl, fun _ u h => by simp only [List.mem_cons, List.mem_nil_iff, or_false] at h; subst h; rfl⟩
instance (i : ByteArray) : MkI ByteArray [.string i] i := ⟨rfl⟩
structure Nd where
  l : Int
  n : Int
  deriving DecidableEq, Inhabited
instance : Flat E.Nd := ⟨2, fun x => [.int .i64 x.l, .int .i64 x.n], fun _ => rfl, fun _ u h => by simp only [List.mem_cons, List.mem_nil_iff, or_false] at h; (repeat' (rcases h with rfl | h)) <;> first | rfl | (subst h; rfl)⟩
instance : Mark E.Nd := ⟨2, fun i => ⟨i, i + 1⟩⟩
instance (a0 a1 : Int) : MkI E.Nd [.int .i64 a0, .int .i64 a1] ⟨a0, a1⟩ := ⟨rfl⟩
instance : ElT Try.prog 29 E.Nd := ⟨trivial⟩
structure Eg where
  l : Int
  a : E.Nd
  b : E.Nd
  deriving DecidableEq, Inhabited
instance : Flat E.Eg := ⟨5, fun x => [.int .i64 x.l, .int .i64 x.a.l, .int .i64 x.a.n, .int .i64 x.b.l, .int .i64 x.b.n], fun _ => rfl, fun _ u h => by simp only [List.mem_cons, List.mem_nil_iff, or_false] at h; (repeat' (rcases h with rfl | h)) <;> first | rfl | (subst h; rfl)⟩
instance : Mark E.Eg := ⟨5, fun i => ⟨i, ⟨i + 1, i + 2⟩, ⟨i + 3, i + 4⟩⟩⟩
instance (a0 a1 a2 a3 a4 : Int) : MkI E.Eg [.int .i64 a0, .int .i64 a1, .int .i64 a2, .int .i64 a3, .int .i64 a4] ⟨a0, ⟨a1, a2⟩, ⟨a3, a4⟩⟩ := ⟨rfl⟩
instance : ElT Try.prog 31 E.Eg := ⟨trivial⟩
structure Opn where
  k : Int
  n : E.Nd
  e : E.Eg
  deriving DecidableEq, Inhabited
instance : Flat E.Opn := ⟨8, fun x => [.int .i64 x.k, .int .i64 x.n.l, .int .i64 x.n.n, .int .i64 x.e.l, .int .i64 x.e.a.l, .int .i64 x.e.a.n, .int .i64 x.e.b.l, .int .i64 x.e.b.n], fun _ => rfl, fun _ u h => by simp only [List.mem_cons, List.mem_nil_iff, or_false] at h; (repeat' (rcases h with rfl | h)) <;> first | rfl | (subst h; rfl)⟩
instance : Mark E.Opn := ⟨8, fun i => ⟨i, ⟨i + 1, i + 2⟩, ⟨i + 3, ⟨i + 4, i + 5⟩, ⟨i + 6, i + 7⟩⟩⟩⟩
instance (a0 a1 a2 a3 a4 a5 a6 a7 : Int) : MkI E.Opn [.int .i64 a0, .int .i64 a1, .int .i64 a2, .int .i64 a3, .int .i64 a4, .int .i64 a5, .int .i64 a6, .int .i64 a7] ⟨a0, ⟨a1, a2⟩, ⟨a3, ⟨a4, a5⟩, ⟨a6, a7⟩⟩⟩ := ⟨rfl⟩
instance : ElT Try.prog 33 E.Opn := ⟨trivial⟩
structure Qu where
  k : Int
  n : E.Nd
  deriving DecidableEq, Inhabited
instance : Flat E.Qu := ⟨3, fun x => [.int .i64 x.k, .int .i64 x.n.l, .int .i64 x.n.n], fun _ => rfl, fun _ u h => by simp only [List.mem_cons, List.mem_nil_iff, or_false] at h; (repeat' (rcases h with rfl | h)) <;> first | rfl | (subst h; rfl)⟩
instance : Mark E.Qu := ⟨3, fun i => ⟨i, ⟨i + 1, i + 2⟩⟩⟩
instance (a0 a1 a2 : Int) : MkI E.Qu [.int .i64 a0, .int .i64 a1, .int .i64 a2] ⟨a0, ⟨a1, a2⟩⟩ := ⟨rfl⟩
instance : ElT Try.prog 35 E.Qu := ⟨trivial⟩
structure Pe where
  c : Int
  z : Int
  q : Int
  deriving DecidableEq, Inhabited
instance : Flat E.Pe := ⟨3, fun x => [.int .i64 x.c, .int .i64 x.z, .int .i64 x.q], fun _ => rfl, fun _ u h => by simp only [List.mem_cons, List.mem_nil_iff, or_false] at h; (repeat' (rcases h with rfl | h)) <;> first | rfl | (subst h; rfl)⟩
instance : Mark E.Pe := ⟨3, fun i => ⟨i, i + 1, i + 2⟩⟩
instance (a0 a1 a2 : Int) : MkI E.Pe [.int .i64 a0, .int .i64 a1, .int .i64 a2] ⟨a0, a1, a2⟩ := ⟨rfl⟩
instance : ElT Try.prog 40 E.Pe := ⟨trivial⟩
structure Pg where
  l : Int
  a : Int
  deriving DecidableEq, Inhabited
instance : Flat E.Pg := ⟨2, fun x => [.int .i64 x.l, .int .i64 x.a], fun _ => rfl, fun _ u h => by simp only [List.mem_cons, List.mem_nil_iff, or_false] at h; (repeat' (rcases h with rfl | h)) <;> first | rfl | (subst h; rfl)⟩
instance : Mark E.Pg := ⟨2, fun i => ⟨i, i + 1⟩⟩
instance (a0 a1 : Int) : MkI E.Pg [.int .i64 a0, .int .i64 a1] ⟨a0, a1⟩ := ⟨rfl⟩
instance : ElT Try.prog 192 E.Pg := ⟨trivial⟩
structure Ev where
  k : Int
  w : Int
  o : E.Opn
  q : E.Qu
  deriving DecidableEq, Inhabited
instance : Flat E.Ev := ⟨13, fun x => [.int .i64 x.k, .int .i64 x.w, .int .i64 x.o.k, .int .i64 x.o.n.l, .int .i64 x.o.n.n, .int .i64 x.o.e.l, .int .i64 x.o.e.a.l, .int .i64 x.o.e.a.n, .int .i64 x.o.e.b.l, .int .i64 x.o.e.b.n, .int .i64 x.q.k, .int .i64 x.q.n.l, .int .i64 x.q.n.n], fun _ => rfl, fun _ u h => by simp only [List.mem_cons, List.mem_nil_iff, or_false] at h; (repeat' (rcases h with rfl | h)) <;> first | rfl | (subst h; rfl)⟩
instance : Mark E.Ev := ⟨13, fun i => ⟨i, i + 1, ⟨i + 2, ⟨i + 3, i + 4⟩, ⟨i + 5, ⟨i + 6, i + 7⟩, ⟨i + 8, i + 9⟩⟩⟩, ⟨i + 10, ⟨i + 11, i + 12⟩⟩⟩⟩
instance (a0 a1 a2 a3 a4 a5 a6 a7 a8 a9 a10 a11 a12 : Int) : MkI E.Ev [.int .i64 a0, .int .i64 a1, .int .i64 a2, .int .i64 a3, .int .i64 a4, .int .i64 a5, .int .i64 a6, .int .i64 a7, .int .i64 a8, .int .i64 a9, .int .i64 a10, .int .i64 a11, .int .i64 a12] ⟨a0, a1, ⟨a2, ⟨a3, a4⟩, ⟨a5, ⟨a6, a7⟩, ⟨a8, a9⟩⟩⟩, ⟨a10, ⟨a11, a12⟩⟩⟩ := ⟨rfl⟩
instance : ElT Try.prog 37 E.Ev := ⟨trivial⟩
theorem eq_len {α : Type} [DecidableEq α] {xs ys : List α} (h : xs.length ≠ ys.length) : false = decide (xs = ys) := (decide_eq_false (fun e => h (by rw [e]))).symm
theorem eq_no {α : Type} [DecidableEq α] {xs ys : List α} {k : Nat} {x y : α} (hx : xs[k]? = some x) (hy : ys[k]? = some y) (h : x ≠ y) : false = decide (xs = ys) := (decide_eq_false (fun e => h (by subst e; rw [hx] at hy; injection hy))).symm
theorem eq_all {α : Type} [DecidableEq α] {xs ys : List α} {k : Nat} (h : xs.take k = ys.take k) (h1 : xs.length ≤ k) (h2 : ys.length ≤ k) : true = decide (xs = ys) := (decide_eq_true (by rwa [List.take_of_length_le h1, List.take_of_length_le h2] at h)).symm
theorem eq_st {α : Type} {xs ys : List α} {k : Nat} {x y : α} (h : xs.take k = ys.take k) (hx : xs[k]? = some x) (hy : ys[k]? = some y) (e : x = y) : xs.take (k + 1) = ys.take (k + 1) := by rw [List.take_add_one, List.take_add_one, h, hx, hy, e]
theorem get_lt {α : Type} {xs : List α} {k : Nat} (h : k < xs.length) : ∃ x, xs[k]? = some x := ⟨_, List.getElem?_eq_getElem h⟩
theorem c_toNode {a0 a1 : Int} (w : World) : Calls Try.prog 49 #[.agg #[.int .i64 a0, .int .i64 a1]] w (Ret (fun _ : Unit => .agg #[.int .i64 a0, .int .i64 a1]) (fun _ => []) w) := by
  refine enter (args := _) Try.func49 rfl Try.ntmps49 (by simp) ?_
  repeat' (first | refine E.st ?_ | refine E.q ?_ | refine E.qs ?_ | refine E.q2 ?_ | refine E.tr ?_ | refine E.ap (fun _ _ => ?_) | refine E.b1 (fun _ _ => ?_) | refine E.b0 (fun _ _ => ?_) | refine E.bsn (fun _ _ => ?_) | refine E.mk (fun _ _ => ?_) | refine E.bx (fun _ => ?_) | refine E.al (fun _ => ?_) | refine E.sb ?_ | refine E.dq ?_ | refine E.ct ?_ | refine E.cf ?_ | refine E.cs (fun hh => ?_) (fun hh => ?_) | refine E.at_block_other rfl ?_)
  exact r1 ()
theorem c_eqNode {a0 a1 b0 b1 : Int} (w : World) : Calls Try.prog 88 #[.agg #[.int .i64 a0, .int .i64 a1], .agg #[.int .i64 b0, .int .i64 b1]] w (Ret (fun _ : Unit => .bool (decide ((⟨a0, a1⟩ : E.Nd) = ⟨b0, b1⟩))) (fun _ => []) w) := by
  refine enter (args := _) Try.func88 rfl Try.ntmps88 (by simp) ?_
  repeat' (first | refine E.st ?_ | refine E.q ?_ | refine E.qs ?_ | refine E.q2 ?_ | refine E.tr ?_ | refine E.ap (fun _ _ => ?_) | refine E.b1 (fun _ _ => ?_) | refine E.b0 (fun _ _ => ?_) | refine E.bsn (fun _ _ => ?_) | refine E.mk (fun _ _ => ?_) | refine E.bx (fun _ => ?_) | refine E.al (fun _ => ?_) | refine E.sb ?_ | refine E.dq ?_ | refine E.ct ?_ | refine E.cf ?_ | refine E.cs (fun hh => ?_) (fun hh => ?_) | refine E.at_block_other rfl ?_)
  all_goals (refine rb ?_; simp_all)
theorem c_toEdge {a0 a1 a2 a3 a4 : Int} (w : World) : Calls Try.prog 82 #[.agg #[.int .i64 a0, .int .i64 a1, .int .i64 a2, .int .i64 a3, .int .i64 a4]] w (Ret (fun _ : Unit => .agg #[.int .i64 a0, .int .i64 a1, .int .i64 a2, .int .i64 a3, .int .i64 a4]) (fun _ => []) w) := by
  refine enter (args := _) Try.func82 rfl Try.ntmps82 (by simp) ?_
  repeat' (first | refine E.st ?_ | refine E.cl (h := fun _ w _ => c_toNode w) (k := ?_)  | refine E.q ?_ | refine E.qs ?_ | refine E.q2 ?_ | refine E.tr ?_ | refine E.ap (fun _ _ => ?_) | refine E.b1 (fun _ _ => ?_) | refine E.b0 (fun _ _ => ?_) | refine E.bsn (fun _ _ => ?_) | refine E.mk (fun _ _ => ?_) | refine E.bx (fun _ => ?_) | refine E.al (fun _ => ?_) | refine E.sb ?_ | refine E.dq ?_ | refine E.ct ?_ | refine E.cf ?_ | refine E.cs (fun hh => ?_) (fun hh => ?_) | refine E.at_block_other rfl ?_)
  exact r1 ()
theorem c_eqEdge {a0 a1 a2 a3 a4 b0 b1 b2 b3 b4 : Int} (w : World) : Calls Try.prog 89 #[.agg #[.int .i64 a0, .int .i64 a1, .int .i64 a2, .int .i64 a3, .int .i64 a4], .agg #[.int .i64 b0, .int .i64 b1, .int .i64 b2, .int .i64 b3, .int .i64 b4]] w (Ret (fun _ : Unit => .bool (decide ((⟨a0, ⟨a1, a2⟩, ⟨a3, a4⟩⟩ : E.Eg) = ⟨b0, ⟨b1, b2⟩, ⟨b3, b4⟩⟩))) (fun _ => []) w) := by
  refine enter (args := _) Try.func89 rfl Try.ntmps89 (by simp) ?_
  repeat' (first | refine E.st ?_ | refine E.cl (h := fun _ w _ => c_eqNode w) (k := ?_)  | refine E.q ?_ | refine E.qs ?_ | refine E.q2 ?_ | refine E.tr ?_ | refine E.ap (fun _ _ => ?_) | refine E.b1 (fun _ _ => ?_) | refine E.b0 (fun _ _ => ?_) | refine E.bsn (fun _ _ => ?_) | refine E.mk (fun _ _ => ?_) | refine E.bx (fun _ => ?_) | refine E.al (fun _ => ?_) | refine E.sb ?_ | refine E.dq ?_ | refine E.ct ?_ | refine E.cf ?_ | refine E.cs (fun hh => ?_) (fun hh => ?_) | refine E.at_block_other rfl ?_)
  all_goals (refine rb ?_; simp_all)
theorem c_toQuery {a0 a1 a2 : Int} (w : World) : Calls Try.prog 17 #[.agg #[.int .i64 a0, .int .i64 a1, .int .i64 a2]] w (Ret (fun _ : Unit => .agg #[.int .i64 a0, .int .i64 a1, .int .i64 a2]) (fun _ => []) w) := by
  refine enter (args := _) Try.func17 rfl Try.ntmps17 (by simp) ?_
  repeat' (first | refine E.st ?_ | refine E.cl (h := fun _ w _ => c_toNode w) (k := ?_)  | refine E.q ?_ | refine E.qs ?_ | refine E.q2 ?_ | refine E.tr ?_ | refine E.ap (fun _ _ => ?_) | refine E.b1 (fun _ _ => ?_) | refine E.b0 (fun _ _ => ?_) | refine E.bsn (fun _ _ => ?_) | refine E.mk (fun _ _ => ?_) | refine E.bx (fun _ => ?_) | refine E.al (fun _ => ?_) | refine E.sb ?_ | refine E.dq ?_ | refine E.ct ?_ | refine E.cf ?_ | refine E.cs (fun hh => ?_) (fun hh => ?_) | refine E.at_block_other rfl ?_)
  exact r1 ()
theorem c_eqIntS {v u : Value} {xs ys : List Int} (w : World) (hr : RdF w v xs := by exact rdA) (hq : RdF w u ys := by exact rdA) : Calls Try.prog 19 #[v, u] w (Ret (fun _ : Unit => .bool (decide (xs = ys))) (fun _ => []) w) := by
  have m1 := hr.le
  have m2 := hq.le
  simp only [maxLen] at m1 m2
  refine enter (args := _) Try.func19 rfl Try.ntmps19 (by simp) ?_
  repeat' (first | refine E.st ?_ | refine E.q ?_ | refine E.qs ?_ | refine E.q2 ?_ | refine E.tr ?_ | refine E.ap (fun _ _ => ?_) | refine E.b1 (fun _ _ => ?_) | refine E.b0 (fun _ _ => ?_) | refine E.bsn (fun _ _ => ?_) | refine E.mk (fun _ _ => ?_) | refine E.bx (fun _ => ?_) | refine E.al (fun _ => ?_) | refine E.sb ?_ | refine E.dq ?_ | refine E.ct ?_ | refine E.cf ?_ | refine E.cs (fun hh => ?_) (fun hh => ?_) | refine E.at_block_other rfl ?_)
  · exact rb (eq_len (by omega))
  refine lp (fun k : Nat => k ≤ xs.length ∧ xs.take k = ys.take k) (fun k => [(0, .pl v), (1, .pl u), (5, .pl (.int .i64 (k : Int)))]) (fun k => []) (fun k => xs.length - k) 0 ⟨Nat.zero_le _, rfl⟩ (fun k hk0 => ?_)
  obtain ⟨hk1, hk2⟩ := hk0
  rcases Nat.lt_or_ge k xs.length with hlt | hge
  · have hlt' : k < ys.length := by omega
    obtain ⟨x, hx⟩ := get_lt hlt
    obtain ⟨y, hy⟩ := get_lt hlt'
    repeat' (first | refine E.st ?_ | refine E.q ?_ | refine E.qs ?_ | refine E.q2 ?_ | refine E.tr ?_ | refine E.ap (fun _ _ => ?_) | refine E.b1 (fun _ _ => ?_) | refine E.b0 (fun _ _ => ?_) | refine E.bsn (fun _ _ => ?_) | refine E.mk (fun _ _ => ?_) | refine E.bx (fun _ => ?_) | refine E.al (fun _ => ?_) | refine E.sb ?_ | refine E.dq ?_ | refine E.ct ?_ | refine E.cf ?_ | refine E.cs (fun hh => ?_) (fun hh => ?_) | refine E.at_block_other rfl ?_)
    · exact rb (eq_no hx hy hh)
    · exact rd (k + 1) ⟨by omega, eq_st hk2 hx hy (by first | exact Decidable.not_not.1 hh | exact hh)⟩
  · repeat' (first | refine E.st ?_ | refine E.q ?_ | refine E.qs ?_ | refine E.q2 ?_ | refine E.tr ?_ | refine E.ap (fun _ _ => ?_) | refine E.b1 (fun _ _ => ?_) | refine E.b0 (fun _ _ => ?_) | refine E.bsn (fun _ _ => ?_) | refine E.mk (fun _ _ => ?_) | refine E.bx (fun _ => ?_) | refine E.al (fun _ => ?_) | refine E.sb ?_ | refine E.dq ?_ | refine E.ct ?_ | refine E.cf ?_ | refine E.cs (fun hh => ?_) (fun hh => ?_) | refine E.at_block_other rfl ?_)
    exact rb (eq_all hk2 (by omega) (by omega))
theorem c_markIntS {w0 : World} {K : List Ck} {v : Value} {xs : List Int} {k : Int} (w : World) (hw : KOk w0 (ownF 3 v xs :: K) w) (hk : 0 ≤ k ∧ k ≤ 1000000000000 := by omega) (hn : xs.length ≤ 10000000 := by omega) :
    Calls Try.prog 22 #[v, .int .i64 k] w (RetK (fun _ : Unit => .int .i64 (k + ((xs.length * 1 : Nat) : Int))) (fun _ => [ownF 3 v (marks Int xs.length k)] ++ K) w0) := by
  refine enterK (args := _) hw Try.func22 rfl Try.ntmps22 (by simp) ?_
  repeat' (first | refine E.st ?_ | refine E.q ?_ | refine E.qs ?_ | refine E.q2 ?_ | refine E.tr ?_ | refine E.ap (fun _ _ => ?_) | refine E.b1 (fun _ _ => ?_) | refine E.b0 (fun _ _ => ?_) | refine E.bsn (fun _ _ => ?_) | refine E.mk (fun _ _ => ?_) | refine E.bx (fun _ => ?_) | refine E.al (fun _ => ?_) | refine E.sb ?_ | refine E.dq ?_ | refine E.ct ?_ | refine E.cf ?_ | refine E.cs (fun hh => ?_) (fun hh => ?_) | refine E.at_block_other rfl ?_)
  refine lp (fun i : Nat => i ≤ xs.length) (fun i => [(0, .pl v), (1, .pl (.int .i64 (k + ((i * 1 : Nat) : Int)))), (5, .pl (.int .i64 (i : Int)))]) (fun i => ownF 3 v (marks Int i k ++ xs.drop i) :: K) (fun i => xs.length - i) 0 (Nat.zero_le _) (fun i hi => ?_) fs (KSub.ownF (Pick.here _ _) (by simp [marks]) (KSub.refl _))
  have hl : (marks Int i k ++ xs.drop i).length = xs.length := by simp [marks_length]; omega
  rcases Nat.lt_or_ge i xs.length with hlt | hge
  · obtain ⟨x, hx⟩ := get_lt hlt
    have hg := mark_get (k := k) hx
    have hs := mark_set (k := k) hx
    have hi1 : k + (((i + 1) * 1 : Nat) : Int) = k + ((i * 1 : Nat) : Int) + 1 := by omega
    simp only [Mark.el, Mark.n] at hs
    generalize hm : k + ((i * 1 : Nat) : Int) = m at hs hi1 ⊢
    have hm2 : 0 ≤ m ∧ m ≤ 1000200000000 := by omega
    generalize marks Int i k ++ xs.drop i = zs at hs hg hl ⊢
    repeat' (first | refine E.st ?_ | (refine trn (fun R hR hl hg => ?_)) | refine E.q ?_ | refine E.qs ?_ | refine E.q2 ?_ | refine E.tr ?_ | refine E.ap (fun _ _ => ?_) | refine E.b1 (fun _ _ => ?_) | refine E.b0 (fun _ _ => ?_) | refine E.bsn (fun _ _ => ?_) | refine E.mk (fun _ _ => ?_) | refine E.bx (fun _ => ?_) | refine E.al (fun _ => ?_) | refine E.sb ?_ | refine E.dq ?_ | refine E.ct ?_ | refine E.cf ?_ | refine E.cs (fun hh => ?_) (fun hh => ?_) | refine E.at_block_other rfl ?_)
    refine rd (i + 1) (by omega) (hF := fs (FSub.cons rfl (FSub.int rfl (by omega) (FSub.int rfl (by omega) FSub.nil)))) (hK := KSub.ownF (Pick.here _ _) ?_ (KSub.refl _))
    first | exact hs | (rw [← hs]; done) | (rw [← hs]; subst_vars; simp only [List.set_set, Int.add_assoc]; done) | (rw [← hs]; subst_vars; simp only [List.set_set, Int.add_assoc]; rfl) | (rw [← hs]; subst_vars; rfl)
  · repeat' (first | refine E.st ?_ | refine E.q ?_ | refine E.qs ?_ | refine E.q2 ?_ | refine E.tr ?_ | refine E.ap (fun _ _ => ?_) | refine E.b1 (fun _ _ => ?_) | refine E.b0 (fun _ _ => ?_) | refine E.bsn (fun _ _ => ?_) | refine E.mk (fun _ _ => ?_) | refine E.bx (fun _ => ?_) | refine E.al (fun _ => ?_) | refine E.sb ?_ | refine E.dq ?_ | refine E.ct ?_ | refine E.cf ?_ | refine E.cs (fun hh => ?_) (fun hh => ?_) | refine E.at_block_other rfl ?_)
    have : i = xs.length := by omega
    subst this
    exact r1K () (hK := KSub.ownF (Pick.here _ _) (by simp) (KSub.refl _))
theorem c_heldIntS {v : Value} {n : Nat} {k : Int} (w : World) (hr : RdF w v (marks Int n k) := by exact rdA) (hk : 0 ≤ k ∧ k ≤ 1000000000000 := by omega) (hn : n ≤ 10000000 := by omega) :
    Calls Try.prog 23 #[v, .int .i64 k] w (Ret (fun _ : Unit => .int .i64 (k + ((n * 1 : Nat) : Int))) (fun _ => []) w) := by
  have hl : (marks Int n k).length = n := marks_length _ _
  refine enter (args := _) Try.func23 rfl Try.ntmps23 (by simp) ?_
  repeat' (first | refine E.st ?_ | refine E.q ?_ | refine E.qs ?_ | refine E.q2 ?_ | refine E.tr ?_ | refine E.ap (fun _ _ => ?_) | refine E.b1 (fun _ _ => ?_) | refine E.b0 (fun _ _ => ?_) | refine E.bsn (fun _ _ => ?_) | refine E.mk (fun _ _ => ?_) | refine E.bx (fun _ => ?_) | refine E.al (fun _ => ?_) | refine E.sb ?_ | refine E.dq ?_ | refine E.ct ?_ | refine E.cf ?_ | refine E.cs (fun hh => ?_) (fun hh => ?_) | refine E.at_block_other rfl ?_)
  refine lp (fun i : Nat => i ≤ n) (fun i => [(0, .pl v), (1, .pl (.int .i64 (k + ((i * 1 : Nat) : Int)))), (5, .pl (.int .i64 (i : Int)))]) (fun i => []) (fun i => n - i) 0 (Nat.zero_le _) (fun i hi => ?_)
  rcases Nat.lt_or_ge i n with hlt | hge
  · have hx := marks_get (α := Int) (n := n) (k := k) hlt
    have hi1 : k + (((i + 1) * 1 : Nat) : Int) = k + ((i * 1 : Nat) : Int) + 1 := by omega
    simp only [Mark.el, Mark.n] at hx
    generalize hm : k + ((i * 1 : Nat) : Int) = m at hx hi1 ⊢
    have hm2 : 0 ≤ m ∧ m ≤ 1000200000000 := by omega
    repeat' (first | refine E.st ?_ | refine E.q ?_ | refine E.qs ?_ | refine E.q2 ?_ | refine E.tr ?_ | refine E.ap (fun _ _ => ?_) | refine E.b1 (fun _ _ => ?_) | refine E.b0 (fun _ _ => ?_) | refine E.bsn (fun _ _ => ?_) | refine E.mk (fun _ _ => ?_) | refine E.bx (fun _ => ?_) | refine E.al (fun _ => ?_) | refine E.sb ?_ | refine E.dq ?_ | refine E.ct ?_ | refine E.cf ?_ | refine E.cs (fun hh => ?_) (fun hh => ?_) | refine E.at_block_other rfl ?_)
    all_goals first
      | exact rd (i + 1) (by omega) (hF := fs (FSub.cons rfl (FSub.int rfl (by omega) (FSub.int rfl (by omega) FSub.nil))))
      | exact absurd rfl (by assumption)
      | (exfalso; (try dsimp only at *); omega)
      | (rename_i hh; refine absurd ?_ hh; (try dsimp only); omega)
  · repeat' (first | refine E.st ?_ | refine E.q ?_ | refine E.qs ?_ | refine E.q2 ?_ | refine E.tr ?_ | refine E.ap (fun _ _ => ?_) | refine E.b1 (fun _ _ => ?_) | refine E.b0 (fun _ _ => ?_) | refine E.bsn (fun _ _ => ?_) | refine E.mk (fun _ _ => ?_) | refine E.bx (fun _ => ?_) | refine E.al (fun _ => ?_) | refine E.sb ?_ | refine E.dq ?_ | refine E.ct ?_ | refine E.cf ?_ | refine E.cs (fun hh => ?_) (fun hh => ?_) | refine E.at_block_other rfl ?_)
    have : i = n := by omega
    subst this
    exact ri
theorem c_toNodeS {v : Value} {xs : List E.Nd} (w : World) (hr : RdF w v xs := by exact rdA) (hn : xs.length ≤ 1048576 := by omega) : Calls Try.prog 47 #[v] w (Ret (fun s : Sv => .slice s.a s.n s.c) (fun s => [ownF 29 (.slice s.a s.n s.c) xs]) w) := by
  refine calls_sv ?_
  refine enter (args := _) Try.func47 rfl Try.ntmps47 (by simp) ?_
  repeat' (first | refine E.st ?_ | refine E.q ?_ | refine E.qs ?_ | refine E.q2 ?_ | refine E.tr ?_ | refine E.ap (fun _ _ => ?_) | refine E.b1 (fun _ _ => ?_) | refine E.b0 (fun _ _ => ?_) | refine E.bsn (fun _ _ => ?_) | refine E.mk (fun _ _ => ?_) | refine E.bx (fun _ => ?_) | refine E.al (fun _ => ?_) | refine E.sb ?_ | refine E.dq ?_ | refine E.ct ?_ | refine E.cf ?_ | refine E.cs (fun hh => ?_) (fun hh => ?_) | refine E.at_block_other rfl ?_)
  rename_i v1 h1
  refine lp (fun k : Nat => k ≤ xs.length) (fun k => [(0, .pl v), (3, .pl v1), (4, .pl (.int .i64 (k : Int)))]) (fun k => [ownF 29 v1 (xs.take k ++ List.replicate (xs.length - k) ⟨0, 0⟩)]) (fun k => xs.length - k) 0 (Nat.zero_le _) (fun k hk0 => ?_)
  rcases Nat.lt_or_ge k xs.length with hlt | hge
  · obtain ⟨x, hx⟩ := get_lt hlt
    have hg := fill_get xs (⟨0, 0⟩ : E.Nd) hlt
    have hl : (xs.take k ++ List.replicate (xs.length - k) (⟨0, 0⟩ : E.Nd)).length = xs.length := by simp; omega
    have hs := fill_set xs (⟨0, 0⟩ : E.Nd) hx
    repeat' (first | refine E.st ?_ | refine E.cl (h := fun _ w _ => c_toNode w) (k := ?_)  | refine E.q ?_ | refine E.qs ?_ | refine E.q2 ?_ | refine E.tr ?_ | refine E.ap (fun _ _ => ?_) | refine E.b1 (fun _ _ => ?_) | refine E.b0 (fun _ _ => ?_) | refine E.bsn (fun _ _ => ?_) | refine E.mk (fun _ _ => ?_) | refine E.bx (fun _ => ?_) | refine E.al (fun _ => ?_) | refine E.sb ?_ | refine E.dq ?_ | refine E.ct ?_ | refine E.cf ?_ | refine E.cs (fun hh => ?_) (fun hh => ?_) | refine E.at_block_other rfl ?_)
    exact rd (k + 1) (by omega)
  · repeat' (first | refine E.st ?_ | refine E.q ?_ | refine E.qs ?_ | refine E.q2 ?_ | refine E.tr ?_ | refine E.ap (fun _ _ => ?_) | refine E.b1 (fun _ _ => ?_) | refine E.b0 (fun _ _ => ?_) | refine E.bsn (fun _ _ => ?_) | refine E.mk (fun _ _ => ?_) | refine E.bx (fun _ => ?_) | refine E.al (fun _ => ?_) | refine E.sb ?_ | refine E.dq ?_ | refine E.ct ?_ | refine E.cf ?_ | refine E.cs (fun hh => ?_) (fun hh => ?_) | refine E.at_block_other rfl ?_)
    have : k = xs.length := by omega
    subst this
    have e : xs.take xs.length ++ List.replicate (xs.length - xs.length) (⟨0, 0⟩ : E.Nd) = xs := by simp
    exact r1 _
theorem c_eqNodeS {v u : Value} {xs ys : List E.Nd} (w : World) (hr : RdF w v xs := by exact rdA) (hq : RdF w u ys := by exact rdA) : Calls Try.prog 54 #[v, u] w (Ret (fun _ : Unit => .bool (decide (xs = ys))) (fun _ => []) w) := by
  have m1 := hr.le
  have m2 := hq.le
  simp only [maxLen] at m1 m2
  refine enter (args := _) Try.func54 rfl Try.ntmps54 (by simp) ?_
  repeat' (first | refine E.st ?_ | refine E.q ?_ | refine E.qs ?_ | refine E.q2 ?_ | refine E.tr ?_ | refine E.ap (fun _ _ => ?_) | refine E.b1 (fun _ _ => ?_) | refine E.b0 (fun _ _ => ?_) | refine E.bsn (fun _ _ => ?_) | refine E.mk (fun _ _ => ?_) | refine E.bx (fun _ => ?_) | refine E.al (fun _ => ?_) | refine E.sb ?_ | refine E.dq ?_ | refine E.ct ?_ | refine E.cf ?_ | refine E.cs (fun hh => ?_) (fun hh => ?_) | refine E.at_block_other rfl ?_)
  · exact rb (eq_len (by omega))
  refine lp (fun k : Nat => k ≤ xs.length ∧ xs.take k = ys.take k) (fun k => [(0, .pl v), (1, .pl u), (5, .pl (.int .i64 (k : Int)))]) (fun k => []) (fun k => xs.length - k) 0 ⟨Nat.zero_le _, rfl⟩ (fun k hk0 => ?_)
  obtain ⟨hk1, hk2⟩ := hk0
  rcases Nat.lt_or_ge k xs.length with hlt | hge
  · have hlt' : k < ys.length := by omega
    obtain ⟨x, hx⟩ := get_lt hlt
    obtain ⟨y, hy⟩ := get_lt hlt'
    repeat' (first | refine E.st ?_ | refine E.cl (h := fun _ w _ => c_eqNode w) (k := ?_)  | refine E.q ?_ | refine E.qs ?_ | refine E.q2 ?_ | refine E.tr ?_ | refine E.ap (fun _ _ => ?_) | refine E.b1 (fun _ _ => ?_) | refine E.b0 (fun _ _ => ?_) | refine E.bsn (fun _ _ => ?_) | refine E.mk (fun _ _ => ?_) | refine E.bx (fun _ => ?_) | refine E.al (fun _ => ?_) | refine E.sb ?_ | refine E.dq ?_ | refine E.ct ?_ | refine E.cf ?_ | refine E.cs (fun hh => ?_) (fun hh => ?_) | refine E.at_block_other rfl ?_)
    · exact rb (eq_no hx hy hh)
    · exact rd (k + 1) ⟨by omega, eq_st hk2 hx hy (by first | exact Decidable.not_not.1 hh | exact hh)⟩
  · repeat' (first | refine E.st ?_ | refine E.q ?_ | refine E.qs ?_ | refine E.q2 ?_ | refine E.tr ?_ | refine E.ap (fun _ _ => ?_) | refine E.b1 (fun _ _ => ?_) | refine E.b0 (fun _ _ => ?_) | refine E.bsn (fun _ _ => ?_) | refine E.mk (fun _ _ => ?_) | refine E.bx (fun _ => ?_) | refine E.al (fun _ => ?_) | refine E.sb ?_ | refine E.dq ?_ | refine E.ct ?_ | refine E.cf ?_ | refine E.cs (fun hh => ?_) (fun hh => ?_) | refine E.at_block_other rfl ?_)
    exact rb (eq_all hk2 (by omega) (by omega))
theorem c_szNodeS {v : Value} {xs : List E.Nd} {k : Int} (w : World) (hr : RdF w v xs := by exact rdA) (hk : 0 ≤ k ∧ k ≤ 1048576 := by omega) : Calls Try.prog 40 #[v, .int .i64 k] w (Ret (fun _ : Unit => .int .i64 (if k - xs.length < 0 then -1 else k - xs.length)) (fun _ => []) w) := by
  have m1 := hr.le
  simp only [maxLen] at m1
  refine enter (args := _) Try.func40 rfl Try.ntmps40 (by simp) ?_
  repeat' (first | refine E.st ?_ | refine E.q ?_ | refine E.qs ?_ | refine E.q2 ?_ | refine E.tr ?_ | refine E.ap (fun _ _ => ?_) | refine E.b1 (fun _ _ => ?_) | refine E.b0 (fun _ _ => ?_) | refine E.bsn (fun _ _ => ?_) | refine E.mk (fun _ _ => ?_) | refine E.bx (fun _ => ?_) | refine E.al (fun _ => ?_) | refine E.sb ?_ | refine E.dq ?_ | refine E.ct ?_ | refine E.cf ?_ | refine E.cs (fun hh => ?_) (fun hh => ?_) | refine E.at_block_other rfl ?_)
  · exact ri (by rw [if_pos (by omega)])
  · exact ri (by rw [if_neg (by omega)])
theorem c_szNodeS_yes {v : Value} {xs : List E.Nd} {k : Int} (w : World) (hr : RdF w v xs := by exact rdA) (h : (xs.length : Int) ≤ k := by omega) (hk : 0 ≤ k ∧ k ≤ 1048576 := by omega) : Calls Try.prog 40 #[v, .int .i64 k] w (Ret (fun _ : Unit => .int .i64 (k - xs.length)) (fun _ => []) w) := by
  have := c_szNodeS w hr hk
  rwa [if_neg (by omega)] at this
theorem c_szNodeS_no {v : Value} {xs : List E.Nd} {k : Int} (w : World) (hr : RdF w v xs := by exact rdA) (h : ¬ (xs.length : Int) ≤ k := by omega) (hk : 0 ≤ k ∧ k ≤ 1048576 := by omega) : Calls Try.prog 40 #[v, .int .i64 k] w (Ret (fun _ : Unit => .int .i64 (-1)) (fun _ => []) w) := by
  have := c_szNodeS w hr hk
  rwa [if_pos (by omega)] at this
theorem c_markNodeS {w0 : World} {K : List Ck} {v : Value} {xs : List E.Nd} {k : Int} (w : World) (hw : KOk w0 (ownF 29 v xs :: K) w) (hk : 0 ≤ k ∧ k ≤ 1000000000000 := by omega) (hn : xs.length ≤ 10000000 := by omega) :
    Calls Try.prog 56 #[v, .int .i64 k] w (RetK (fun _ : Unit => .int .i64 (k + ((xs.length * 2 : Nat) : Int))) (fun _ => [ownF 29 v (marks E.Nd xs.length k)] ++ K) w0) := by
  refine enterK (args := _) hw Try.func56 rfl Try.ntmps56 (by simp) ?_
  repeat' (first | refine E.st ?_ | refine E.q ?_ | refine E.qs ?_ | refine E.q2 ?_ | refine E.tr ?_ | refine E.ap (fun _ _ => ?_) | refine E.b1 (fun _ _ => ?_) | refine E.b0 (fun _ _ => ?_) | refine E.bsn (fun _ _ => ?_) | refine E.mk (fun _ _ => ?_) | refine E.bx (fun _ => ?_) | refine E.al (fun _ => ?_) | refine E.sb ?_ | refine E.dq ?_ | refine E.ct ?_ | refine E.cf ?_ | refine E.cs (fun hh => ?_) (fun hh => ?_) | refine E.at_block_other rfl ?_)
  refine lp (fun i : Nat => i ≤ xs.length) (fun i => [(0, .pl v), (1, .pl (.int .i64 (k + ((i * 2 : Nat) : Int)))), (5, .pl (.int .i64 (i : Int)))]) (fun i => ownF 29 v (marks E.Nd i k ++ xs.drop i) :: K) (fun i => xs.length - i) 0 (Nat.zero_le _) (fun i hi => ?_) fs (KSub.ownF (Pick.here _ _) (by simp [marks]) (KSub.refl _))
  have hl : (marks E.Nd i k ++ xs.drop i).length = xs.length := by simp [marks_length]; omega
  rcases Nat.lt_or_ge i xs.length with hlt | hge
  · obtain ⟨x, hx⟩ := get_lt hlt
    have hg := mark_get (k := k) hx
    have hs := mark_set (k := k) hx
    have hi1 : k + (((i + 1) * 2 : Nat) : Int) = k + ((i * 2 : Nat) : Int) + 2 := by omega
    simp only [Mark.el, Mark.n] at hs
    generalize hm : k + ((i * 2 : Nat) : Int) = m at hs hi1 ⊢
    have hm2 : 0 ≤ m ∧ m ≤ 1000200000000 := by omega
    generalize marks E.Nd i k ++ xs.drop i = zs at hs hg hl ⊢
    repeat' (first | refine E.st ?_ | (refine trn (fun R hR hl hg => ?_)) | refine E.q ?_ | refine E.qs ?_ | refine E.q2 ?_ | refine E.tr ?_ | refine E.ap (fun _ _ => ?_) | refine E.b1 (fun _ _ => ?_) | refine E.b0 (fun _ _ => ?_) | refine E.bsn (fun _ _ => ?_) | refine E.mk (fun _ _ => ?_) | refine E.bx (fun _ => ?_) | refine E.al (fun _ => ?_) | refine E.sb ?_ | refine E.dq ?_ | refine E.ct ?_ | refine E.cf ?_ | refine E.cs (fun hh => ?_) (fun hh => ?_) | refine E.at_block_other rfl ?_)
    refine rd (i + 1) (by omega) (hF := fs (FSub.cons rfl (FSub.int rfl (by omega) (FSub.int rfl (by omega) FSub.nil)))) (hK := KSub.ownF (Pick.here _ _) ?_ (KSub.refl _))
    first | exact hs | (rw [← hs]; done) | (rw [← hs]; subst_vars; simp only [List.set_set, Int.add_assoc]; done) | (rw [← hs]; subst_vars; simp only [List.set_set, Int.add_assoc]; rfl) | (rw [← hs]; subst_vars; rfl)
  · repeat' (first | refine E.st ?_ | refine E.q ?_ | refine E.qs ?_ | refine E.q2 ?_ | refine E.tr ?_ | refine E.ap (fun _ _ => ?_) | refine E.b1 (fun _ _ => ?_) | refine E.b0 (fun _ _ => ?_) | refine E.bsn (fun _ _ => ?_) | refine E.mk (fun _ _ => ?_) | refine E.bx (fun _ => ?_) | refine E.al (fun _ => ?_) | refine E.sb ?_ | refine E.dq ?_ | refine E.ct ?_ | refine E.cf ?_ | refine E.cs (fun hh => ?_) (fun hh => ?_) | refine E.at_block_other rfl ?_)
    have : i = xs.length := by omega
    subst this
    exact r1K () (hK := KSub.ownF (Pick.here _ _) (by simp) (KSub.refl _))
theorem c_toEdgeS {v : Value} {xs : List E.Eg} (w : World) (hr : RdF w v xs := by exact rdA) (hn : xs.length ≤ 1048576 := by omega) : Calls Try.prog 48 #[v] w (Ret (fun s : Sv => .slice s.a s.n s.c) (fun s => [ownF 31 (.slice s.a s.n s.c) xs]) w) := by
  refine calls_sv ?_
  refine enter (args := _) Try.func48 rfl Try.ntmps48 (by simp) ?_
  repeat' (first | refine E.st ?_ | refine E.q ?_ | refine E.qs ?_ | refine E.q2 ?_ | refine E.tr ?_ | refine E.ap (fun _ _ => ?_) | refine E.b1 (fun _ _ => ?_) | refine E.b0 (fun _ _ => ?_) | refine E.bsn (fun _ _ => ?_) | refine E.mk (fun _ _ => ?_) | refine E.bx (fun _ => ?_) | refine E.al (fun _ => ?_) | refine E.sb ?_ | refine E.dq ?_ | refine E.ct ?_ | refine E.cf ?_ | refine E.cs (fun hh => ?_) (fun hh => ?_) | refine E.at_block_other rfl ?_)
  rename_i v1 h1
  refine lp (fun k : Nat => k ≤ xs.length) (fun k => [(0, .pl v), (3, .pl v1), (4, .pl (.int .i64 (k : Int)))]) (fun k => [ownF 31 v1 (xs.take k ++ List.replicate (xs.length - k) ⟨0, ⟨0, 0⟩, ⟨0, 0⟩⟩)]) (fun k => xs.length - k) 0 (Nat.zero_le _) (fun k hk0 => ?_)
  rcases Nat.lt_or_ge k xs.length with hlt | hge
  · obtain ⟨x, hx⟩ := get_lt hlt
    have hg := fill_get xs (⟨0, ⟨0, 0⟩, ⟨0, 0⟩⟩ : E.Eg) hlt
    have hl : (xs.take k ++ List.replicate (xs.length - k) (⟨0, ⟨0, 0⟩, ⟨0, 0⟩⟩ : E.Eg)).length = xs.length := by simp; omega
    have hs := fill_set xs (⟨0, ⟨0, 0⟩, ⟨0, 0⟩⟩ : E.Eg) hx
    repeat' (first | refine E.st ?_ | refine E.cl (h := fun _ w _ => c_toEdge w) (k := ?_)  | refine E.q ?_ | refine E.qs ?_ | refine E.q2 ?_ | refine E.tr ?_ | refine E.ap (fun _ _ => ?_) | refine E.b1 (fun _ _ => ?_) | refine E.b0 (fun _ _ => ?_) | refine E.bsn (fun _ _ => ?_) | refine E.mk (fun _ _ => ?_) | refine E.bx (fun _ => ?_) | refine E.al (fun _ => ?_) | refine E.sb ?_ | refine E.dq ?_ | refine E.ct ?_ | refine E.cf ?_ | refine E.cs (fun hh => ?_) (fun hh => ?_) | refine E.at_block_other rfl ?_)
    exact rd (k + 1) (by omega)
  · repeat' (first | refine E.st ?_ | refine E.q ?_ | refine E.qs ?_ | refine E.q2 ?_ | refine E.tr ?_ | refine E.ap (fun _ _ => ?_) | refine E.b1 (fun _ _ => ?_) | refine E.b0 (fun _ _ => ?_) | refine E.bsn (fun _ _ => ?_) | refine E.mk (fun _ _ => ?_) | refine E.bx (fun _ => ?_) | refine E.al (fun _ => ?_) | refine E.sb ?_ | refine E.dq ?_ | refine E.ct ?_ | refine E.cf ?_ | refine E.cs (fun hh => ?_) (fun hh => ?_) | refine E.at_block_other rfl ?_)
    have : k = xs.length := by omega
    subst this
    have e : xs.take xs.length ++ List.replicate (xs.length - xs.length) (⟨0, ⟨0, 0⟩, ⟨0, 0⟩⟩ : E.Eg) = xs := by simp
    exact r1 _
theorem c_eqEdgeS {v u : Value} {xs ys : List E.Eg} (w : World) (hr : RdF w v xs := by exact rdA) (hq : RdF w u ys := by exact rdA) : Calls Try.prog 55 #[v, u] w (Ret (fun _ : Unit => .bool (decide (xs = ys))) (fun _ => []) w) := by
  have m1 := hr.le
  have m2 := hq.le
  simp only [maxLen] at m1 m2
  refine enter (args := _) Try.func55 rfl Try.ntmps55 (by simp) ?_
  repeat' (first | refine E.st ?_ | refine E.q ?_ | refine E.qs ?_ | refine E.q2 ?_ | refine E.tr ?_ | refine E.ap (fun _ _ => ?_) | refine E.b1 (fun _ _ => ?_) | refine E.b0 (fun _ _ => ?_) | refine E.bsn (fun _ _ => ?_) | refine E.mk (fun _ _ => ?_) | refine E.bx (fun _ => ?_) | refine E.al (fun _ => ?_) | refine E.sb ?_ | refine E.dq ?_ | refine E.ct ?_ | refine E.cf ?_ | refine E.cs (fun hh => ?_) (fun hh => ?_) | refine E.at_block_other rfl ?_)
  · exact rb (eq_len (by omega))
  refine lp (fun k : Nat => k ≤ xs.length ∧ xs.take k = ys.take k) (fun k => [(0, .pl v), (1, .pl u), (5, .pl (.int .i64 (k : Int)))]) (fun k => []) (fun k => xs.length - k) 0 ⟨Nat.zero_le _, rfl⟩ (fun k hk0 => ?_)
  obtain ⟨hk1, hk2⟩ := hk0
  rcases Nat.lt_or_ge k xs.length with hlt | hge
  · have hlt' : k < ys.length := by omega
    obtain ⟨x, hx⟩ := get_lt hlt
    obtain ⟨y, hy⟩ := get_lt hlt'
    repeat' (first | refine E.st ?_ | refine E.cl (h := fun _ w _ => c_eqEdge w) (k := ?_)  | refine E.q ?_ | refine E.qs ?_ | refine E.q2 ?_ | refine E.tr ?_ | refine E.ap (fun _ _ => ?_) | refine E.b1 (fun _ _ => ?_) | refine E.b0 (fun _ _ => ?_) | refine E.bsn (fun _ _ => ?_) | refine E.mk (fun _ _ => ?_) | refine E.bx (fun _ => ?_) | refine E.al (fun _ => ?_) | refine E.sb ?_ | refine E.dq ?_ | refine E.ct ?_ | refine E.cf ?_ | refine E.cs (fun hh => ?_) (fun hh => ?_) | refine E.at_block_other rfl ?_)
    · exact rb (eq_no hx hy hh)
    · exact rd (k + 1) ⟨by omega, eq_st hk2 hx hy (by first | exact Decidable.not_not.1 hh | exact hh)⟩
  · repeat' (first | refine E.st ?_ | refine E.q ?_ | refine E.qs ?_ | refine E.q2 ?_ | refine E.tr ?_ | refine E.ap (fun _ _ => ?_) | refine E.b1 (fun _ _ => ?_) | refine E.b0 (fun _ _ => ?_) | refine E.bsn (fun _ _ => ?_) | refine E.mk (fun _ _ => ?_) | refine E.bx (fun _ => ?_) | refine E.al (fun _ => ?_) | refine E.sb ?_ | refine E.dq ?_ | refine E.ct ?_ | refine E.cf ?_ | refine E.cs (fun hh => ?_) (fun hh => ?_) | refine E.at_block_other rfl ?_)
    exact rb (eq_all hk2 (by omega) (by omega))
theorem c_szEdgeS {v : Value} {xs : List E.Eg} {k : Int} (w : World) (hr : RdF w v xs := by exact rdA) (hk : 0 ≤ k ∧ k ≤ 1048576 := by omega) : Calls Try.prog 41 #[v, .int .i64 k] w (Ret (fun _ : Unit => .int .i64 (if k - xs.length < 0 then -1 else k - xs.length)) (fun _ => []) w) := by
  have m1 := hr.le
  simp only [maxLen] at m1
  refine enter (args := _) Try.func41 rfl Try.ntmps41 (by simp) ?_
  repeat' (first | refine E.st ?_ | refine E.q ?_ | refine E.qs ?_ | refine E.q2 ?_ | refine E.tr ?_ | refine E.ap (fun _ _ => ?_) | refine E.b1 (fun _ _ => ?_) | refine E.b0 (fun _ _ => ?_) | refine E.bsn (fun _ _ => ?_) | refine E.mk (fun _ _ => ?_) | refine E.bx (fun _ => ?_) | refine E.al (fun _ => ?_) | refine E.sb ?_ | refine E.dq ?_ | refine E.ct ?_ | refine E.cf ?_ | refine E.cs (fun hh => ?_) (fun hh => ?_) | refine E.at_block_other rfl ?_)
  · exact ri (by rw [if_pos (by omega)])
  · exact ri (by rw [if_neg (by omega)])
theorem c_szEdgeS_yes {v : Value} {xs : List E.Eg} {k : Int} (w : World) (hr : RdF w v xs := by exact rdA) (h : (xs.length : Int) ≤ k := by omega) (hk : 0 ≤ k ∧ k ≤ 1048576 := by omega) : Calls Try.prog 41 #[v, .int .i64 k] w (Ret (fun _ : Unit => .int .i64 (k - xs.length)) (fun _ => []) w) := by
  have := c_szEdgeS w hr hk
  rwa [if_neg (by omega)] at this
theorem c_szEdgeS_no {v : Value} {xs : List E.Eg} {k : Int} (w : World) (hr : RdF w v xs := by exact rdA) (h : ¬ (xs.length : Int) ≤ k := by omega) (hk : 0 ≤ k ∧ k ≤ 1048576 := by omega) : Calls Try.prog 41 #[v, .int .i64 k] w (Ret (fun _ : Unit => .int .i64 (-1)) (fun _ => []) w) := by
  have := c_szEdgeS w hr hk
  rwa [if_pos (by omega)] at this
theorem c_markEdgeS {w0 : World} {K : List Ck} {v : Value} {xs : List E.Eg} {k : Int} (w : World) (hw : KOk w0 (ownF 31 v xs :: K) w) (hk : 0 ≤ k ∧ k ≤ 1000000000000 := by omega) (hn : xs.length ≤ 10000000 := by omega) :
    Calls Try.prog 57 #[v, .int .i64 k] w (RetK (fun _ : Unit => .int .i64 (k + ((xs.length * 5 : Nat) : Int))) (fun _ => [ownF 31 v (marks E.Eg xs.length k)] ++ K) w0) := by
  refine enterK (args := _) hw Try.func57 rfl Try.ntmps57 (by simp) ?_
  repeat' (first | refine E.st ?_ | refine E.q ?_ | refine E.qs ?_ | refine E.q2 ?_ | refine E.tr ?_ | refine E.ap (fun _ _ => ?_) | refine E.b1 (fun _ _ => ?_) | refine E.b0 (fun _ _ => ?_) | refine E.bsn (fun _ _ => ?_) | refine E.mk (fun _ _ => ?_) | refine E.bx (fun _ => ?_) | refine E.al (fun _ => ?_) | refine E.sb ?_ | refine E.dq ?_ | refine E.ct ?_ | refine E.cf ?_ | refine E.cs (fun hh => ?_) (fun hh => ?_) | refine E.at_block_other rfl ?_)
  refine lp (fun i : Nat => i ≤ xs.length) (fun i => [(0, .pl v), (1, .pl (.int .i64 (k + ((i * 5 : Nat) : Int)))), (5, .pl (.int .i64 (i : Int)))]) (fun i => ownF 31 v (marks E.Eg i k ++ xs.drop i) :: K) (fun i => xs.length - i) 0 (Nat.zero_le _) (fun i hi => ?_) fs (KSub.ownF (Pick.here _ _) (by simp [marks]) (KSub.refl _))
  have hl : (marks E.Eg i k ++ xs.drop i).length = xs.length := by simp [marks_length]; omega
  rcases Nat.lt_or_ge i xs.length with hlt | hge
  · obtain ⟨x, hx⟩ := get_lt hlt
    have hg := mark_get (k := k) hx
    have hs := mark_set (k := k) hx
    have hi1 : k + (((i + 1) * 5 : Nat) : Int) = k + ((i * 5 : Nat) : Int) + 5 := by omega
    simp only [Mark.el, Mark.n] at hs
    generalize hm : k + ((i * 5 : Nat) : Int) = m at hs hi1 ⊢
    have hm2 : 0 ≤ m ∧ m ≤ 1000200000000 := by omega
    generalize marks E.Eg i k ++ xs.drop i = zs at hs hg hl ⊢
    repeat' (first | refine E.st ?_ | (refine trn (fun R hR hl hg => ?_)) | refine E.q ?_ | refine E.qs ?_ | refine E.q2 ?_ | refine E.tr ?_ | refine E.ap (fun _ _ => ?_) | refine E.b1 (fun _ _ => ?_) | refine E.b0 (fun _ _ => ?_) | refine E.bsn (fun _ _ => ?_) | refine E.mk (fun _ _ => ?_) | refine E.bx (fun _ => ?_) | refine E.al (fun _ => ?_) | refine E.sb ?_ | refine E.dq ?_ | refine E.ct ?_ | refine E.cf ?_ | refine E.cs (fun hh => ?_) (fun hh => ?_) | refine E.at_block_other rfl ?_)
    refine rd (i + 1) (by omega) (hF := fs (FSub.cons rfl (FSub.int rfl (by omega) (FSub.int rfl (by omega) FSub.nil)))) (hK := KSub.ownF (Pick.here _ _) ?_ (KSub.refl _))
    first | exact hs | (rw [← hs]; done) | (rw [← hs]; subst_vars; simp only [List.set_set, Int.add_assoc]; done) | (rw [← hs]; subst_vars; simp only [List.set_set, Int.add_assoc]; rfl) | (rw [← hs]; subst_vars; rfl)
  · repeat' (first | refine E.st ?_ | refine E.q ?_ | refine E.qs ?_ | refine E.q2 ?_ | refine E.tr ?_ | refine E.ap (fun _ _ => ?_) | refine E.b1 (fun _ _ => ?_) | refine E.b0 (fun _ _ => ?_) | refine E.bsn (fun _ _ => ?_) | refine E.mk (fun _ _ => ?_) | refine E.bx (fun _ => ?_) | refine E.al (fun _ => ?_) | refine E.sb ?_ | refine E.dq ?_ | refine E.ct ?_ | refine E.cf ?_ | refine E.cs (fun hh => ?_) (fun hh => ?_) | refine E.at_block_other rfl ?_)
    have : i = xs.length := by omega
    subst this
    exact r1K () (hK := KSub.ownF (Pick.here _ _) (by simp) (KSub.refl _))
end E
end Go.Proofs.Ytjdagbicjhmeeaa
