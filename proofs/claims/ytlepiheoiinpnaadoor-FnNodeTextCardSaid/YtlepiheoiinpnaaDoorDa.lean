/- Data: what the program's values stand for (written by a program of this repo: gen_data2.py). -/
import Derived.Test.YtlepiheoiinpnaaDoorTy
import Derived.Test.YtlepiheoiinpnaaDoorN
namespace Go.Proofs.YtlepiheoiinpnaaDoor
namespace E
open Go Go.RowKit
set_option linter.unusedSimpArgs false
set_option linter.unusedVariables false
set_option maxHeartbeats 1000000
set_option maxRecDepth 10000
attribute [local irreducible] HC HL HQ HX HO At Y YV Opd Opds KnX Sl Ld Src GV RV Calls Code.wp eptr adr RdF ownF OneX HG LdC
instance : Mx Tryd.prog := ⟨mixed⟩
instance : Flat Int := ⟨1, fun i => [.int .i64 i], fun _ => rfl, fun _ u h => by simp only [List.mem_cons, List.mem_nil_iff, or_false] at h; subst h; rfl⟩
instance : Mark Int := ⟨1, fun i => i⟩
instance (i : Int) : MkI Int [.int .i64 i] i := ⟨rfl⟩
instance : ElT Tryd.prog 3 Int := ⟨trivial⟩
instance : Flat Bool := ⟨1, fun i => [.bool i], fun _ => rfl, fun _ u h => by simp only [List.mem_cons, List.mem_nil_iff, or_false] at h; subst h; rfl⟩
instance (i : Bool) : MkI Bool [.bool i] i := ⟨rfl⟩
instance : Flat ByteArray := ⟨1, fun i => [.string i], fun _ => rfl, fun _ u h => by simp only [List.mem_cons, List.mem_nil_iff, or_false] at h; subst h; rfl⟩
instance (i : ByteArray) : MkI ByteArray [.string i] i := ⟨rfl⟩
structure Nd where
  l : Int
  n : Int
  deriving DecidableEq, Inhabited
instance : Flat E.Nd := ⟨2, fun x => [.int .i64 x.l, .int .i64 x.n], fun _ => rfl, fun _ u h => by simp only [List.mem_cons, List.mem_nil_iff, or_false] at h; (repeat' (rcases h with rfl | h)) <;> first | rfl | (subst h; rfl)⟩
instance : Mark E.Nd := ⟨2, fun i => ⟨i, i + 1⟩⟩
instance (a0 a1 : Int) : MkI E.Nd [.int .i64 a0, .int .i64 a1] ⟨a0, a1⟩ := ⟨rfl⟩
instance : ElT Tryd.prog 25 E.Nd := ⟨trivial⟩
structure Eg where
  l : Int
  a : E.Nd
  b : E.Nd
  deriving DecidableEq, Inhabited
instance : Flat E.Eg := ⟨5, fun x => [.int .i64 x.l, .int .i64 x.a.l, .int .i64 x.a.n, .int .i64 x.b.l, .int .i64 x.b.n], fun _ => rfl, fun _ u h => by simp only [List.mem_cons, List.mem_nil_iff, or_false] at h; (repeat' (rcases h with rfl | h)) <;> first | rfl | (subst h; rfl)⟩
instance : Mark E.Eg := ⟨5, fun i => ⟨i, ⟨i + 1, i + 2⟩, ⟨i + 3, i + 4⟩⟩⟩
instance (a0 a1 a2 a3 a4 : Int) : MkI E.Eg [.int .i64 a0, .int .i64 a1, .int .i64 a2, .int .i64 a3, .int .i64 a4] ⟨a0, ⟨a1, a2⟩, ⟨a3, a4⟩⟩ := ⟨rfl⟩
structure Opn where
  k : Int
  n : E.Nd
  e : E.Eg
  deriving DecidableEq, Inhabited
instance : Flat E.Opn := ⟨8, fun x => [.int .i64 x.k, .int .i64 x.n.l, .int .i64 x.n.n, .int .i64 x.e.l, .int .i64 x.e.a.l, .int .i64 x.e.a.n, .int .i64 x.e.b.l, .int .i64 x.e.b.n], fun _ => rfl, fun _ u h => by simp only [List.mem_cons, List.mem_nil_iff, or_false] at h; (repeat' (rcases h with rfl | h)) <;> first | rfl | (subst h; rfl)⟩
instance : Mark E.Opn := ⟨8, fun i => ⟨i, ⟨i + 1, i + 2⟩, ⟨i + 3, ⟨i + 4, i + 5⟩, ⟨i + 6, i + 7⟩⟩⟩⟩
instance (a0 a1 a2 a3 a4 a5 a6 a7 : Int) : MkI E.Opn [.int .i64 a0, .int .i64 a1, .int .i64 a2, .int .i64 a3, .int .i64 a4, .int .i64 a5, .int .i64 a6, .int .i64 a7] ⟨a0, ⟨a1, a2⟩, ⟨a3, ⟨a4, a5⟩, ⟨a6, a7⟩⟩⟩ := ⟨rfl⟩
structure Qu where
  k : Int
  n : E.Nd
  deriving DecidableEq, Inhabited
instance : Flat E.Qu := ⟨3, fun x => [.int .i64 x.k, .int .i64 x.n.l, .int .i64 x.n.n], fun _ => rfl, fun _ u h => by simp only [List.mem_cons, List.mem_nil_iff, or_false] at h; (repeat' (rcases h with rfl | h)) <;> first | rfl | (subst h; rfl)⟩
instance : Mark E.Qu := ⟨3, fun i => ⟨i, ⟨i + 1, i + 2⟩⟩⟩
instance (a0 a1 a2 : Int) : MkI E.Qu [.int .i64 a0, .int .i64 a1, .int .i64 a2] ⟨a0, ⟨a1, a2⟩⟩ := ⟨rfl⟩
structure Pe where
  c : Int
  z : Int
  q : Int
  deriving DecidableEq, Inhabited
instance : Flat E.Pe := ⟨3, fun x => [.int .i64 x.c, .int .i64 x.z, .int .i64 x.q], fun _ => rfl, fun _ u h => by simp only [List.mem_cons, List.mem_nil_iff, or_false] at h; (repeat' (rcases h with rfl | h)) <;> first | rfl | (subst h; rfl)⟩
instance : Mark E.Pe := ⟨3, fun i => ⟨i, i + 1, i + 2⟩⟩
instance (a0 a1 a2 : Int) : MkI E.Pe [.int .i64 a0, .int .i64 a1, .int .i64 a2] ⟨a0, a1, a2⟩ := ⟨rfl⟩
structure Pg where
  l : Int
  a : Int
  deriving DecidableEq, Inhabited
instance : Flat E.Pg := ⟨2, fun x => [.int .i64 x.l, .int .i64 x.a], fun _ => rfl, fun _ u h => by simp only [List.mem_cons, List.mem_nil_iff, or_false] at h; (repeat' (rcases h with rfl | h)) <;> first | rfl | (subst h; rfl)⟩
instance : Mark E.Pg := ⟨2, fun i => ⟨i, i + 1⟩⟩
instance (a0 a1 : Int) : MkI E.Pg [.int .i64 a0, .int .i64 a1] ⟨a0, a1⟩ := ⟨rfl⟩
structure Ev where
  k : Int
  w : Int
  o : E.Opn
  q : E.Qu
  deriving DecidableEq, Inhabited
instance : Flat E.Ev := ⟨13, fun x => [.int .i64 x.k, .int .i64 x.w, .int .i64 x.o.k, .int .i64 x.o.n.l, .int .i64 x.o.n.n, .int .i64 x.o.e.l, .int .i64 x.o.e.a.l, .int .i64 x.o.e.a.n, .int .i64 x.o.e.b.l, .int .i64 x.o.e.b.n, .int .i64 x.q.k, .int .i64 x.q.n.l, .int .i64 x.q.n.n], fun _ => rfl, fun _ u h => by simp only [List.mem_cons, List.mem_nil_iff, or_false] at h; (repeat' (rcases h with rfl | h)) <;> first | rfl | (subst h; rfl)⟩
instance : Mark E.Ev := ⟨13, fun i => ⟨i, i + 1, ⟨i + 2, ⟨i + 3, i + 4⟩, ⟨i + 5, ⟨i + 6, i + 7⟩, ⟨i + 8, i + 9⟩⟩⟩, ⟨i + 10, ⟨i + 11, i + 12⟩⟩⟩⟩
instance (a0 a1 a2 a3 a4 a5 a6 a7 a8 a9 a10 a11 a12 : Int) : MkI E.Ev [.int .i64 a0, .int .i64 a1, .int .i64 a2, .int .i64 a3, .int .i64 a4, .int .i64 a5, .int .i64 a6, .int .i64 a7, .int .i64 a8, .int .i64 a9, .int .i64 a10, .int .i64 a11, .int .i64 a12] ⟨a0, a1, ⟨a2, ⟨a3, a4⟩, ⟨a5, ⟨a6, a7⟩, ⟨a8, a9⟩⟩⟩, ⟨a10, ⟨a11, a12⟩⟩⟩ := ⟨rfl⟩
theorem eq_len {α : Type} [DecidableEq α] {xs ys : List α} (h : xs.length ≠ ys.length) : false = decide (xs = ys) := (decide_eq_false (fun e => h (by rw [e]))).symm
theorem eq_no {α : Type} [DecidableEq α] {xs ys : List α} {k : Nat} {x y : α} (hx : xs[k]? = some x) (hy : ys[k]? = some y) (h : x ≠ y) : false = decide (xs = ys) := (decide_eq_false (fun e => h (by subst e; rw [hx] at hy; injection hy))).symm
theorem eq_all {α : Type} [DecidableEq α] {xs ys : List α} {k : Nat} (h : xs.take k = ys.take k) (h1 : xs.length ≤ k) (h2 : ys.length ≤ k) : true = decide (xs = ys) := (decide_eq_true (by rwa [List.take_of_length_le h1, List.take_of_length_le h2] at h)).symm
theorem eq_st {α : Type} {xs ys : List α} {k : Nat} {x y : α} (h : xs.take k = ys.take k) (hx : xs[k]? = some x) (hy : ys[k]? = some y) (e : x = y) : xs.take (k + 1) = ys.take (k + 1) := by rw [List.take_add_one, List.take_add_one, h, hx, hy, e]
theorem get_lt {α : Type} {xs : List α} {k : Nat} (h : k < xs.length) : ∃ x, xs[k]? = some x := ⟨_, List.getElem?_eq_getElem h⟩
theorem c_toNode {a0 a1 : Int} (w : World) : Calls Tryd.prog 7 #[.agg #[.int .i64 a0, .int .i64 a1]] w (Ret (fun _ : Unit => .agg #[.int .i64 a0, .int .i64 a1]) (fun _ => []) w) := by
  refine enter (args := _) Tryd.func7 rfl Tryd.ntmps7 (by simp) ?_
  repeat' (first | refine E.st ?_ | refine E.q ?_ | refine E.qs ?_ | refine E.q2 ?_ | refine E.tr ?_ | refine E.ap (fun _ _ => ?_) | refine E.b1 (fun _ _ => ?_) | refine E.b0 (fun _ _ => ?_) | refine E.bsn (fun _ _ => ?_) | refine E.mk (fun _ _ => ?_) | refine E.bx (fun _ => ?_) | refine E.al (fun _ => ?_) | refine E.sb ?_ | refine E.dq ?_ | refine E.ct ?_ | refine E.cf ?_ | refine E.cs (fun hh => ?_) (fun hh => ?_) | refine E.at_block_other rfl ?_)
  exact r1 ()
theorem c_eqNode {a0 a1 b0 b1 : Int} (w : World) : Calls Tryd.prog 11 #[.agg #[.int .i64 a0, .int .i64 a1], .agg #[.int .i64 b0, .int .i64 b1]] w (Ret (fun _ : Unit => .bool (decide ((⟨a0, a1⟩ : E.Nd) = ⟨b0, b1⟩))) (fun _ => []) w) := by
  refine enter (args := _) Tryd.func11 rfl Tryd.ntmps11 (by simp) ?_
  repeat' (first | refine E.st ?_ | refine E.q ?_ | refine E.qs ?_ | refine E.q2 ?_ | refine E.tr ?_ | refine E.ap (fun _ _ => ?_) | refine E.b1 (fun _ _ => ?_) | refine E.b0 (fun _ _ => ?_) | refine E.bsn (fun _ _ => ?_) | refine E.mk (fun _ _ => ?_) | refine E.bx (fun _ => ?_) | refine E.al (fun _ => ?_) | refine E.sb ?_ | refine E.dq ?_ | refine E.ct ?_ | refine E.cf ?_ | refine E.cs (fun hh => ?_) (fun hh => ?_) | refine E.at_block_other rfl ?_)
  all_goals (refine rb ?_; simp_all)
end E
end Go.Proofs.YtlepiheoiinpnaaDoor
