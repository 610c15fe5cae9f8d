/- Data with lists within: pools, graphs, worlds; contracts of the laws' helpers. -/
import Derived.Test.YtpiiapoafmnhhaaGreatM03
namespace Go.Proofs.YtpiiapoafmnhhaaGreat
namespace E
open Go Go.RowKit
set_option linter.unusedSimpArgs false
set_option linter.unusedVariables false
set_option maxHeartbeats 1000000
set_option maxRecDepth 10000
attribute [local irreducible] HC HL HQ HX HO At Y YV Opd Opds KnX Sl Ld Src GV RV Calls Code.wp eptr adr RdF ownF OneX HG LdC
structure PlR where
  z : Int
  s : Sv
structure Pl where
  z : Int
  l : List Pg
  deriving DecidableEq
instance : Flat PlR := ⟨2, fun x => [.int .i64 x.z, .slice x.s.a x.s.n x.s.c], fun _ => rfl, fun _ u h => by simp only [List.mem_cons, List.mem_nil_iff, or_false] at h; (repeat' (rcases h with rfl | h)) <;> first | rfl | (subst h; rfl)⟩
instance (z : Int) (A : Option Addr) (n c : Nat) : MkI PlR [.int .i64 z, .slice A n c] ⟨z, ⟨A, n, c⟩⟩ := ⟨rfl⟩
instance : ElT Tryz.prog 68 PlR := ⟨trivial⟩
instance : Nst Pl PlR Pg := ⟨(·.s), (·.l), fun x d => x.z = d.z⟩
/-- Pages that two calls of a kind add up. -/
def psum (ps : List Pl) (k : Nat) : Nat := ((ps.take k).map (·.l.length)).sum
def tot (ps : List Pl) : Nat := ps.length + psum ps ps.length
theorem c_szPool {z : Int} {A : Option Addr} {n m : Nat} {xs : List Pg} {k : Int} (w : World) (hr : RdF w (.slice A n m) xs := by exact rdA) (hk : 0 ≤ k ∧ k ≤ 1048576 := by omega) : Calls Tryz.prog 42 #[.agg #[.int .i64 z, .slice A n m], .int .i64 k] w (Ret (fun _ : Unit => .int .i64 (if k - xs.length < 0 then -1 else k - xs.length)) (fun _ => []) w) := by
  by_cases hl : (xs.length : Int) ≤ k
  · rw [if_neg (by omega)]
    refine enter (args := _) Tryz.func42 rfl Tryz.ntmps42 (by simp) ?_
    repeat' (first | refine E.st ?_ | refine E.cl (h := fun _ w _ => c_szPageS_yes w) (k := ?_)  | refine E.q ?_ | refine E.qs ?_ | refine E.q2 ?_ | refine E.tr ?_ | refine E.ap (fun _ _ => ?_) | refine E.b1 (fun _ _ => ?_) | refine E.b0 (fun _ _ => ?_) | refine E.bsn (fun _ _ => ?_) | refine E.mk (fun _ _ => ?_) | refine E.bx (fun _ => ?_) | refine E.al (fun _ => ?_) | refine E.sb ?_ | refine E.dq ?_ | refine E.ct ?_ | refine E.cf ?_ | refine E.cs (fun hh => ?_) (fun hh => ?_) | refine E.at_block_other rfl ?_)
    exact ri
  · rw [if_pos (by omega)]
    refine enter (args := _) Tryz.func42 rfl Tryz.ntmps42 (by simp) ?_
    repeat' (first | refine E.st ?_ | refine E.cl (h := fun _ w _ => c_szPageS_no w) (k := ?_)  | refine E.q ?_ | refine E.qs ?_ | refine E.q2 ?_ | refine E.tr ?_ | refine E.ap (fun _ _ => ?_) | refine E.b1 (fun _ _ => ?_) | refine E.b0 (fun _ _ => ?_) | refine E.bsn (fun _ _ => ?_) | refine E.mk (fun _ _ => ?_) | refine E.bx (fun _ => ?_) | refine E.al (fun _ => ?_) | refine E.sb ?_ | refine E.dq ?_ | refine E.ct ?_ | refine E.cf ?_ | refine E.cs (fun hh => ?_) (fun hh => ?_) | refine E.at_block_other rfl ?_)
    exact ri
theorem c_toPool {z : Int} {A : Option Addr} {n m : Nat} {xs : List Pg} (w : World) (hr : RdF w (.slice A n m) xs := by exact rdA) (hn : xs.length ≤ 1048576 := by omega) : Calls Tryz.prog 44 #[.agg #[.int .i64 z, .slice A n m]] w (Ret (fun s : Sv => .agg #[.int .i64 z, .slice s.a s.n s.c]) (fun s => [ownF 63 (.slice s.a s.n s.c) xs]) w) := by
  refine enter (args := _) Tryz.func44 rfl Tryz.ntmps44 (by simp) ?_
  repeat' (first | refine E.st ?_ | refine E.cm (h := fun w _ => c_toPageS w) (k := fun s => ?_) | refine E.q ?_ | refine E.qs ?_ | refine E.q2 ?_ | refine E.tr ?_ | refine E.ap (fun _ _ => ?_) | refine E.b1 (fun _ _ => ?_) | refine E.b0 (fun _ _ => ?_) | refine E.bsn (fun _ _ => ?_) | refine E.mk (fun _ _ => ?_) | refine E.bx (fun _ => ?_) | refine E.al (fun _ => ?_) | refine E.sb ?_ | refine E.dq ?_ | refine E.ct ?_ | refine E.cf ?_ | refine E.cs (fun hh => ?_) (fun hh => ?_) | refine E.at_block_other rfl ?_)
  exact r1 (by assumption)
theorem ks_snoc {k : Ck} {L K : List Ck} : KSub (k :: (L ++ K)) ((L ++ [k]) ++ K) := KSub.ofPerm _ _ (by rw [List.append_assoc]; exact List.perm_middle.symm)
abbrev PlZ : PlR := ⟨0, ⟨none, 0, 0⟩⟩
theorem c_eqPool {z z' : Int} {A A' : Option Addr} {n m n' m' : Nat} {xs ys : List Pg} (w : World) (hr : RdF w (.slice A n m) xs := by exact rdA) (hq : RdF w (.slice A' n' m') ys := by exact rdA) :
    Calls Tryz.prog 46 #[.agg #[.int .i64 z, .slice A n m], .agg #[.int .i64 z', .slice A' n' m']] w (Ret (fun _ : Unit => .bool (decide ((⟨z, xs⟩ : Pl) = ⟨z', ys⟩))) (fun _ => []) w) := by
  refine enter (args := _) Tryz.func46 rfl Tryz.ntmps46 (by simp) ?_
  repeat' (first | refine E.st ?_ | refine E.cl (h := fun _ w _ => c_eqPageS w) (k := ?_)  | refine E.q ?_ | refine E.qs ?_ | refine E.q2 ?_ | refine E.tr ?_ | refine E.ap (fun _ _ => ?_) | refine E.b1 (fun _ _ => ?_) | refine E.b0 (fun _ _ => ?_) | refine E.bsn (fun _ _ => ?_) | refine E.mk (fun _ _ => ?_) | refine E.bx (fun _ => ?_) | refine E.al (fun _ => ?_) | refine E.sb ?_ | refine E.dq ?_ | refine E.ct ?_ | refine E.cf ?_ | refine E.cs (fun hh => ?_) (fun hh => ?_) | refine E.at_block_other rfl ?_)
  all_goals (refine rb ?_; simp_all)
end E
end Go.Proofs.YtpiiapoafmnhhaaGreat
/- Contracts of the laws' helpers on graphs and worlds. -/
namespace Go.Proofs.YtpiiapoafmnhhaaGreat
namespace E
open Go Go.RowKit
set_option linter.unusedSimpArgs false
set_option linter.unusedVariables false
set_option maxHeartbeats 1000000
set_option maxRecDepth 10000
attribute [local irreducible] HC HL HQ HX HO At Y YV Opd Opds KnX Sl Ld Src GV RV Calls Code.wp eptr adr RdF ownF OneX HG LdC
structure Wd where
  ps : List Pe
  ns : List Nd
  es : List Eg
  qs : List Pl
  ls : List Int
  deriving DecidableEq
/-- The five slices of a world read as it. -/
structure RdW (w : World) (v1 v2 v3 v4 v5 : Value) (d : Wd) : Prop where
  ps : RdF w v1 d.ps
  ns : RdF w v2 d.ns
  es : RdF w v3 d.es
  qs : RdN w v4 d.qs
  ls : RdF w v5 d.ls
theorem RdW.now {w0 w : World} {K : List Ck} {v1 v2 v3 v4 v5 : Value} {d : Wd} (h : RdW w0 v1 v2 v3 v4 v5 d) (hw : KOk w0 K w) : RdW w v1 v2 v3 v4 v5 d := ⟨h.ps.now hw, h.ns.now hw, h.es.now hw, h.qs.now hw, h.ls.now hw⟩
def Wd.sz (d : Wd) : Nat := d.ps.length + d.ns.length + d.es.length + tot d.qs + d.ls.length
theorem KSub.ofPerm2 : ∀ (K' K K2 : List Ck), K.Perm (K' ++ K2) → KSub K K'
  | [], K, _, _ => .nil K
  | k :: K1, K, K2, h => by
    obtain ⟨s, t, rfl⟩ := List.append_of_mem (h.mem_iff.2 (List.mem_append_left K2 (List.mem_cons_self (a := k) (l := K1))))
    have h2 : (s ++ t).Perm (K1 ++ K2) := List.Perm.cons_inv ((List.perm_middle).symm.trans h)
    exact .pick (Pick.mid s t k) (KSub.ofPerm2 K1 _ K2 h2)
theorem KSub.drop1 {K K' : List Ck} {k : Ck} (h : KSub K K') : KSub (k :: K) K' := by
  obtain ⟨K2, hp⟩ := h.perm
  exact KSub.ofPerm2 K' _ (k :: K2) ((hp.cons k).trans List.perm_middle.symm)
theorem KSub.app {K K' L : List Ck} (h : KSub K K') : KSub (L ++ K) (L ++ K') := by
  obtain ⟨K2, hp⟩ := h.perm
  refine KSub.ofPerm2 _ _ K2 ?_
  rw [List.append_assoc]
  exact hp.append_left L
end E
end Go.Proofs.YtpiiapoafmnhhaaGreat
/- Contracts of the program's and the reference's functions on labels, nodes, edges, and on what is done to a graph. -/
namespace Go.Proofs.YtpiiapoafmnhhaaGreat
namespace E
open Go Go.RowKit
set_option linter.unusedSimpArgs false
set_option linter.unusedVariables false
set_option maxHeartbeats 1000000
set_option maxRecDepth 10000
attribute [local irreducible] HC HL HQ HX HO At Y YV Opd Opds KnX Sl Ld Src GV RV Calls Code.wp eptr adr RdF ownF OneX HG LdC
def lok (a : Int) : Bool := decide (0 ≤ a) && decide (a ≤ 7)
theorem lok_iff {a : Int} : lok a = true ↔ 0 ≤ a ∧ a ≤ 7 := by simp [lok]
theorem c_s_LabelOk {a : Int} (w : World) : Calls Tryz.prog 61 #[.int .i64 a] w (Ret (fun _ : Unit => .bool (lok a)) (fun _ => []) w) := by
  refine enter (args := _) Tryz.func61 rfl Tryz.ntmps61 (by simp) ?_
  repeat' (first | refine E.st ?_ | refine E.q ?_ | refine E.qs ?_ | refine E.q2 ?_ | refine E.tr ?_ | refine E.ap (fun _ _ => ?_) | refine E.b1 (fun _ _ => ?_) | refine E.b0 (fun _ _ => ?_) | refine E.bsn (fun _ _ => ?_) | refine E.mk (fun _ _ => ?_) | refine E.bx (fun _ => ?_) | refine E.al (fun _ => ?_) | refine E.sb ?_ | refine E.dq ?_ | refine E.ct ?_ | refine E.cf ?_ | refine E.cs (fun hh => ?_) (fun hh => ?_) | refine E.at_block_other rfl ?_)
  exact rb
theorem c_i_LabelOk {a : Int} (w : World) : Calls Tryz.prog 34 #[.int .i64 a] w (Ret (fun _ : Unit => .bool (lok a)) (fun _ => []) w) := by
  refine enter (args := _) Tryz.func34 rfl Tryz.ntmps34 (by simp) ?_
  repeat' (first | refine E.st ?_ | refine E.q ?_ | refine E.qs ?_ | refine E.q2 ?_ | refine E.tr ?_ | refine E.ap (fun _ _ => ?_) | refine E.b1 (fun _ _ => ?_) | refine E.b0 (fun _ _ => ?_) | refine E.bsn (fun _ _ => ?_) | refine E.mk (fun _ _ => ?_) | refine E.bx (fun _ => ?_) | refine E.al (fun _ => ?_) | refine E.sb ?_ | refine E.dq ?_ | refine E.ct ?_ | refine E.cf ?_ | refine E.cs (fun hh => ?_) (fun hh => ?_) | refine E.at_block_other rfl ?_)
  exact rb
def nok (x : Nd) : Bool := lok x.l && (decide (0 ≤ x.n) && decide (x.n ≤ 40))
theorem nok_iff {x : Nd} : nok x = true ↔ 0 ≤ x.l ∧ x.l ≤ 7 ∧ 0 ≤ x.n ∧ x.n ≤ 40 := by simp [nok, lok_iff, and_assoc]
theorem c_s_NodeOk {l n : Int} (w : World) : Calls Tryz.prog 84 #[.agg #[.int .i64 l, .int .i64 n]] w (Ret (fun _ : Unit => .bool (nok ⟨l, n⟩)) (fun _ => []) w) := by
  refine enter (args := _) Tryz.func84 rfl Tryz.ntmps84 (by simp) ?_
  repeat' (first | refine E.st ?_ | refine E.cl (h := fun _ w _ => c_s_LabelOk w) (k := ?_)  | refine E.q ?_ | refine E.qs ?_ | refine E.q2 ?_ | refine E.tr ?_ | refine E.ap (fun _ _ => ?_) | refine E.b1 (fun _ _ => ?_) | refine E.b0 (fun _ _ => ?_) | refine E.bsn (fun _ _ => ?_) | refine E.mk (fun _ _ => ?_) | refine E.bx (fun _ => ?_) | refine E.al (fun _ => ?_) | refine E.sb ?_ | refine E.dq ?_ | refine E.ct ?_ | refine E.cf ?_ | refine E.cs (fun hh => ?_) (fun hh => ?_) | refine E.at_block_other rfl ?_)
  refine rb ?_
  simp [nok, Bool.and_assoc]
theorem c_i_NodeOk {l n : Int} (w : World) : Calls Tryz.prog 99 #[.agg #[.int .i64 l, .int .i64 n]] w (Ret (fun _ : Unit => .bool (nok ⟨l, n⟩)) (fun _ => []) w) := by
  refine enter (args := _) Tryz.func99 rfl Tryz.ntmps99 (by simp) ?_
  repeat' (first | refine E.st ?_ | refine E.cl (h := fun _ w _ => c_i_LabelOk w) (k := ?_)  | refine E.q ?_ | refine E.qs ?_ | refine E.q2 ?_ | refine E.tr ?_ | refine E.ap (fun _ _ => ?_) | refine E.b1 (fun _ _ => ?_) | refine E.b0 (fun _ _ => ?_) | refine E.bsn (fun _ _ => ?_) | refine E.mk (fun _ _ => ?_) | refine E.bx (fun _ => ?_) | refine E.al (fun _ => ?_) | refine E.sb ?_ | refine E.dq ?_ | refine E.ct ?_ | refine E.cf ?_ | refine E.cs (fun hh => ?_) (fun hh => ?_) | refine E.at_block_other rfl ?_)
  refine rb ?_
  simp [nok, Bool.and_assoc]
theorem c_s_l1Two (n : Nat) (w : World) (hn : n ≤ 2 := by omega) : Calls Tryz.prog 219 #[.int .i64 (n : Int)] w (Ret (fun _ : Unit => .int .i64 ((2 ^ n : Nat) : Int)) (fun _ => []) w) := by
  refine enter (args := _) Tryz.func219 rfl Tryz.ntmps219 (by simp) ?_
  repeat' (first | refine E.st ?_ | refine E.q ?_ | refine E.qs ?_ | refine E.q2 ?_ | refine E.tr ?_ | refine E.ap (fun _ _ => ?_) | refine E.b1 (fun _ _ => ?_) | refine E.b0 (fun _ _ => ?_) | refine E.bsn (fun _ _ => ?_) | refine E.mk (fun _ _ => ?_) | refine E.bx (fun _ => ?_) | refine E.al (fun _ => ?_) | refine E.sb ?_ | refine E.dq ?_ | refine E.ct ?_ | refine E.cf ?_ | refine E.cs (fun hh => ?_) (fun hh => ?_) | refine E.at_block_other rfl ?_)
  refine lp (fun k : Nat => k ≤ n) (fun k => [(0, .pl (.int .i64 (n : Int))), (3, .pl (.int .i64 ((2 ^ k : Nat) : Int))), (4, .pl (.int .i64 (k : Int)))]) (fun _ => []) (fun k => n - k) 0 (Nat.zero_le _) (fun k hk => ?_)
  have hb : (2 ^ k : Nat) ≤ 4 := by
    have : k = 0 ∨ k = 1 ∨ k = 2 := by omega
    rcases this with rfl | rfl | rfl <;> decide
  generalize hp : 2 ^ k = p at hb ⊢
  repeat' (first | refine E.st ?_ | refine E.q ?_ | refine E.qs ?_ | refine E.q2 ?_ | refine E.tr ?_ | refine E.ap (fun _ _ => ?_) | refine E.b1 (fun _ _ => ?_) | refine E.b0 (fun _ _ => ?_) | refine E.bsn (fun _ _ => ?_) | refine E.mk (fun _ _ => ?_) | refine E.bx (fun _ => ?_) | refine E.al (fun _ => ?_) | refine E.sb ?_ | refine E.dq ?_ | refine E.ct ?_ | refine E.cf ?_ | refine E.cs (fun hh => ?_) (fun hh => ?_) | refine E.at_block_other rfl ?_)
  · have : (2 ^ (k + 1) : Nat) = p * 2 := by rw [Nat.pow_succ, hp]
    exact rd (k + 1) (by omega)
  · have : k = n := by omega
    subst this
    exact ri (by rw [hp])
def has (a i : Int) : Bool := decide ((IntKind.i64.wrap (a.tdiv ((2 ^ i.toNat : Nat) : Int))).tmod 2 = 1)
theorem c_s_l1Has {a i : Int} (w : World) (hi : 0 ≤ i ∧ i ≤ 2 := by omega) : Calls Tryz.prog 189 #[.int .i64 a, .int .i64 i] w (Ret (fun _ : Unit => .bool (has a i)) (fun _ => []) w) := by
  obtain ⟨n, rfl⟩ := Int.eq_ofNat_of_zero_le hi.1
  have hp : ((2 ^ n : Nat) : Int) ≠ 0 := by
    have : 0 < 2 ^ n := Nat.pow_pos (by decide)
    omega
  refine enter (args := _) Tryz.func189 rfl Tryz.ntmps189 (by simp) ?_
  repeat' (first | refine E.st ?_ | refine E.cl (h := fun _ w _ => c_s_l1Two n w) (k := ?_)  | refine E.q ?_ | refine E.qs ?_ | refine E.q2 ?_ | refine E.tr ?_ | refine E.ap (fun _ _ => ?_) | refine E.b1 (fun _ _ => ?_) | refine E.b0 (fun _ _ => ?_) | refine E.bsn (fun _ _ => ?_) | refine E.mk (fun _ _ => ?_) | refine E.bx (fun _ => ?_) | refine E.al (fun _ => ?_) | refine E.sb ?_ | refine E.dq ?_ | refine E.ct ?_ | refine E.cf ?_ | refine E.cs (fun hh => ?_) (fun hh => ?_) | refine E.at_block_other rfl ?_)
  refine rb ?_
  unfold has
  rw [Int.toNat_natCast]
def bad (a b j : Int) : Bool := has a j && !has b j
def und (a b : Int) : Bool := !(bad a b 0 || bad a b 1 || bad a b 2)
theorem und_false {a b : Int} (k : Nat) (hk : k < 3) (h : bad a b k = true) : und a b = false := by
  have : k = 0 ∨ k = 1 ∨ k = 2 := by omega
  rcases this with rfl | rfl | rfl <;> simp_all [und]
theorem und_true {a b : Int} (h : ∀ j : Nat, j < 3 → bad a b j = false) : und a b = true := by
  have h0 := h 0 (by omega)
  have h1 := h 1 (by omega)
  have h2 := h 2 (by omega)
  simp_all [und]
theorem c_s_l1Under {a b : Int} (w : World) : Calls Tryz.prog 146 #[.int .i64 a, .int .i64 b] w (Ret (fun _ : Unit => .bool (und a b)) (fun _ => []) w) := by
  refine enter (args := _) Tryz.func146 rfl Tryz.ntmps146 (by simp) ?_
  repeat' (first | refine E.st ?_ | refine E.q ?_ | refine E.qs ?_ | refine E.q2 ?_ | refine E.tr ?_ | refine E.ap (fun _ _ => ?_) | refine E.b1 (fun _ _ => ?_) | refine E.b0 (fun _ _ => ?_) | refine E.bsn (fun _ _ => ?_) | refine E.mk (fun _ _ => ?_) | refine E.bx (fun _ => ?_) | refine E.al (fun _ => ?_) | refine E.sb ?_ | refine E.dq ?_ | refine E.ct ?_ | refine E.cf ?_ | refine E.cs (fun hh => ?_) (fun hh => ?_) | refine E.at_block_other rfl ?_)
  refine lp (fun k : Nat => k ≤ 3 ∧ ∀ j : Nat, j < k → bad a b j = false) (fun k => [(0, .pl (.int .i64 a)), (1, .pl (.int .i64 b)), (5, .pl (.int .i64 (k : Int)))]) (fun _ => []) (fun k => 3 - k) 0 ⟨by omega, fun j hj => absurd hj (by omega)⟩ (fun k hk => ?_)
  obtain ⟨hk3, hall⟩ := hk
  rcases Nat.lt_or_ge k 3 with hlt | hge
  · repeat' (first | refine E.st ?_ | refine E.cl (h := fun _ w _ => c_s_l1Has w) (k := ?_)  | refine E.q ?_ | refine E.qs ?_ | refine E.q2 ?_ | refine E.tr ?_ | refine E.ap (fun _ _ => ?_) | refine E.b1 (fun _ _ => ?_) | refine E.b0 (fun _ _ => ?_) | refine E.bsn (fun _ _ => ?_) | refine E.mk (fun _ _ => ?_) | refine E.bx (fun _ => ?_) | refine E.al (fun _ => ?_) | refine E.sb ?_ | refine E.dq ?_ | refine E.ct ?_ | refine E.cf ?_ | refine E.cs (fun hh => ?_) (fun hh => ?_) | refine E.at_block_other rfl ?_)
    · exact rb (und_false k hlt (by simp [bad, hh.1, hh.2])).symm
    · refine rd (k + 1) ⟨by omega, fun j hj => ?_⟩
      rcases Nat.lt_or_ge j k with h | h
      · exact hall j h
      · have : j = k := by omega
        subst this
        rcases hh with hh | hh <;> simp [bad, hh]
  · repeat' (first | refine E.st ?_ | refine E.q ?_ | refine E.qs ?_ | refine E.q2 ?_ | refine E.tr ?_ | refine E.ap (fun _ _ => ?_) | refine E.b1 (fun _ _ => ?_) | refine E.b0 (fun _ _ => ?_) | refine E.bsn (fun _ _ => ?_) | refine E.mk (fun _ _ => ?_) | refine E.bx (fun _ => ?_) | refine E.al (fun _ => ?_) | refine E.sb ?_ | refine E.dq ?_ | refine E.ct ?_ | refine E.cf ?_ | refine E.cs (fun hh => ?_) (fun hh => ?_) | refine E.at_block_other rfl ?_)
    have : k = 3 := by omega
    subst this
    exact rb (und_true hall).symm
def lun (a b : Int) : Bool := lok a && lok b && und a b
theorem c_s_LabelUnder {a b : Int} (w : World) : Calls Tryz.prog 121 #[.int .i64 a, .int .i64 b] w (Ret (fun _ : Unit => .bool (lun a b)) (fun _ => []) w) := by
  refine enter (args := _) Tryz.func121 rfl Tryz.ntmps121 (by simp) ?_
  repeat' (first | refine E.st ?_ | refine E.cl (h := fun _ w _ => c_s_LabelOk w) (k := ?_) | refine E.cl (h := fun _ w _ => c_s_l1Under w) (k := ?_)  | refine E.q ?_ | refine E.qs ?_ | refine E.q2 ?_ | refine E.tr ?_ | refine E.ap (fun _ _ => ?_) | refine E.b1 (fun _ _ => ?_) | refine E.b0 (fun _ _ => ?_) | refine E.bsn (fun _ _ => ?_) | refine E.mk (fun _ _ => ?_) | refine E.bx (fun _ => ?_) | refine E.al (fun _ => ?_) | refine E.sb ?_ | refine E.dq ?_ | refine E.ct ?_ | refine E.cf ?_ | refine E.cs (fun hh => ?_) (fun hh => ?_) | refine E.at_block_other rfl ?_)
  exact rb
/-- The letters of labels, as bits. -/
theorem bits_under (a b : Int) (ha : lok a = true) (hb : lok b = true) : ∃ v : Int, (∀ w, (Op.intBits .andNot .u8 (IntKind.u8.wrap a) (IntKind.u8.wrap b)).run Tryz.prog w = .ok (.int .u8 v) w) ∧ decide (v = 0) = und a b := by
  have ha' : a = 0 ∨ a = 1 ∨ a = 2 ∨ a = 3 ∨ a = 4 ∨ a = 5 ∨ a = 6 ∨ a = 7 := by simp [lok] at ha; omega
  have hb' : b = 0 ∨ b = 1 ∨ b = 2 ∨ b = 3 ∨ b = 4 ∨ b = 5 ∨ b = 6 ∨ b = 7 := by simp [lok] at hb; omega
  rcases ha' with rfl | rfl | rfl | rfl | rfl | rfl | rfl | rfl <;> rcases hb' with rfl | rfl | rfl | rfl | rfl | rfl | rfl | rfl <;> exact ⟨_, fun _ => rfl, by decide +kernel⟩
theorem c_i_under {a b : Int} (w : World) (ha : lok a = true) (hb : lok b = true) : Calls Tryz.prog 100 #[.int .u8 (IntKind.u8.wrap a), .int .u8 (IntKind.u8.wrap b)] w (Ret (fun _ : Unit => .bool (und a b)) (fun _ => []) w) := by
  obtain ⟨v, hbv, he⟩ := bits_under a b ha hb
  refine enter (args := _) Tryz.func100 rfl Tryz.ntmps100 (by simp) ?_
  repeat' (first | refine E.st ?_ | refine E.qy (hy := y_bits (Or.inr (Or.inr (Or.inr rfl))) (Opd.pl rfl) (Opd.pl rfl) hbv) (hr := ?_) | refine E.q ?_ | refine E.qs ?_ | refine E.q2 ?_ | refine E.tr ?_ | refine E.ap (fun _ _ => ?_) | refine E.b1 (fun _ _ => ?_) | refine E.b0 (fun _ _ => ?_) | refine E.bsn (fun _ _ => ?_) | refine E.mk (fun _ _ => ?_) | refine E.bx (fun _ => ?_) | refine E.al (fun _ => ?_) | refine E.sb ?_ | refine E.dq ?_ | refine E.ct ?_ | refine E.cf ?_ | refine E.cs (fun hh => ?_) (fun hh => ?_) | refine E.at_block_other rfl ?_)
  exact rb he
theorem c_i_LabelUnder {a b : Int} (w : World) : Calls Tryz.prog 39 #[.int .i64 a, .int .i64 b] w (Ret (fun _ : Unit => .bool (lun a b)) (fun _ => []) w) := by
  refine enter (args := _) Tryz.func39 rfl Tryz.ntmps39 (by simp) ?_
  repeat' (first | refine E.st ?_ | refine E.cl (h := fun _ w _ => c_i_LabelOk w) (k := ?_) | refine cl (h := fun hc w _ => c_i_under w (Bool.and_eq_true_iff.1 hc).1 (Bool.and_eq_true_iff.1 hc).2) (k := ?_) | refine E.q ?_ | refine E.qs ?_ | refine E.q2 ?_ | refine E.tr ?_ | refine E.ap (fun _ _ => ?_) | refine E.b1 (fun _ _ => ?_) | refine E.b0 (fun _ _ => ?_) | refine E.bsn (fun _ _ => ?_) | refine E.mk (fun _ _ => ?_) | refine E.bx (fun _ => ?_) | refine E.al (fun _ => ?_) | refine E.sb ?_ | refine E.dq ?_ | refine E.ct ?_ | refine E.cf ?_ | refine E.cs (fun hh => ?_) (fun hh => ?_) | refine E.at_block_other rfl ?_)
  exact rb

def cd (x : Nd) : Int := IntKind.i64.wrap (IntKind.i64.wrap (x.l * 64) + x.n)
def code (x : Nd) : Int := if nok x = true then 64 * x.l + x.n else -1
theorem cd_ok {x : Nd} (h : nok x = true) : cd x = 64 * x.l + x.n := by
  have := nok_iff.1 h
  unfold cd
  rw [wrap_i64_of (z := x.l * 64) (by omega), wrap_i64_of (by omega)]
  omega
theorem code_cd {x : Nd} (h : nok x = true) : code x = cd x := by rw [cd_ok h, code, if_pos h]
theorem c_s_l2Code {l n : Int} (w : World) : Calls Tryz.prog 85 #[.agg #[.int .i64 l, .int .i64 n]] w (Ret (fun _ : Unit => .int .i64 (cd ⟨l, n⟩)) (fun _ => []) w) := by
  refine enter (args := _) Tryz.func85 rfl Tryz.ntmps85 (by simp) ?_
  repeat' (first | refine E.st ?_ | refine E.q ?_ | refine E.qs ?_ | refine E.q2 ?_ | refine E.tr ?_ | refine E.ap (fun _ _ => ?_) | refine E.b1 (fun _ _ => ?_) | refine E.b0 (fun _ _ => ?_) | refine E.bsn (fun _ _ => ?_) | refine E.mk (fun _ _ => ?_) | refine E.bx (fun _ => ?_) | refine E.al (fun _ => ?_) | refine E.sb ?_ | refine E.dq ?_ | refine E.ct ?_ | refine E.cf ?_ | refine E.cs (fun hh => ?_) (fun hh => ?_) | refine E.at_block_other rfl ?_)
  exact ri
theorem c_i_NodeCode {l n : Int} (w : World) : Calls Tryz.prog 75 #[.agg #[.int .i64 l, .int .i64 n]] w (Ret (fun _ : Unit => .int .i64 (code ⟨l, n⟩)) (fun _ => []) w) := by
  refine enter (args := _) Tryz.func75 rfl Tryz.ntmps75 (by simp) ?_
  repeat' (first | refine E.st ?_ | refine E.cl (h := fun _ w _ => c_i_NodeOk w) (k := ?_)  | refine E.q ?_ | refine E.qs ?_ | refine E.q2 ?_ | refine E.tr ?_ | refine E.ap (fun _ _ => ?_) | refine E.b1 (fun _ _ => ?_) | refine E.b0 (fun _ _ => ?_) | refine E.bsn (fun _ _ => ?_) | refine E.mk (fun _ _ => ?_) | refine E.bx (fun _ => ?_) | refine E.al (fun _ => ?_) | refine E.sb ?_ | refine E.dq ?_ | refine E.ct ?_ | refine E.cf ?_ | refine E.cs (fun hh => ?_) (fun hh => ?_) | refine E.at_block_other rfl ?_)
  · refine ri ?_
    simp [code, *]
  · have hb := nok_iff.1 (by assumption)
    refine ri ?_
    simp only [code, *, if_true]
    simp only [] at hb
    rw [wrap_i64_of (z := 64 * l) (by omega), wrap_i64_of (by omega)]
def eok (x : Eg) : Bool := lok x.l && nok x.a && nok x.b && decide (cd x.a < cd x.b) && und x.a.l x.l && und x.b.l x.l
theorem c_s_EdgeOk {l al an bl bn : Int} (w : World) : Calls Tryz.prog 86 #[.agg #[.int .i64 l, .int .i64 al, .int .i64 an, .int .i64 bl, .int .i64 bn]] w (Ret (fun _ : Unit => .bool (eok ⟨l, ⟨al, an⟩, ⟨bl, bn⟩⟩)) (fun _ => []) w) := by
  refine enter (args := _) Tryz.func86 rfl Tryz.ntmps86 (by simp) ?_
  repeat' (first | refine E.st ?_ | refine E.cl (h := fun _ w _ => c_s_LabelOk w) (k := ?_) | refine E.cl (h := fun _ w _ => c_s_NodeOk w) (k := ?_) | refine E.cl (h := fun _ w _ => c_s_l2Code w) (k := ?_) | refine E.cl (h := fun _ w _ => c_s_l1Under w) (k := ?_)  | refine E.q ?_ | refine E.qs ?_ | refine E.q2 ?_ | refine E.tr ?_ | refine E.ap (fun _ _ => ?_) | refine E.b1 (fun _ _ => ?_) | refine E.b0 (fun _ _ => ?_) | refine E.bsn (fun _ _ => ?_) | refine E.mk (fun _ _ => ?_) | refine E.bx (fun _ => ?_) | refine E.al (fun _ => ?_) | refine E.sb ?_ | refine E.dq ?_ | refine E.ct ?_ | refine E.cf ?_ | refine E.cs (fun hh => ?_) (fun hh => ?_) | refine E.at_block_other rfl ?_)
  exact rb
theorem c_i_EdgeOk {l al an bl bn : Int} (w : World) : Calls Tryz.prog 117 #[.agg #[.int .i64 l, .int .i64 al, .int .i64 an, .int .i64 bl, .int .i64 bn]] w (Ret (fun _ : Unit => .bool (eok ⟨l, ⟨al, an⟩, ⟨bl, bn⟩⟩)) (fun _ => []) w) := by
  refine enter (args := _) Tryz.func117 rfl Tryz.ntmps117 (by simp) ?_
  repeat' (first | refine E.st ?_ | refine E.cl (h := fun _ w _ => c_i_LabelOk w) (k := ?_) | refine E.cl (h := fun _ w _ => c_i_NodeOk w) (k := ?_) | refine E.cl (h := fun _ w _ => c_i_NodeCode w) (k := ?_) | refine E.cl (h := fun _ w _ => c_i_LabelUnder w) (k := ?_)  | refine E.q ?_ | refine E.qs ?_ | refine E.q2 ?_ | refine E.tr ?_ | refine E.ap (fun _ _ => ?_) | refine E.b1 (fun _ _ => ?_) | refine E.b0 (fun _ _ => ?_) | refine E.bsn (fun _ _ => ?_) | refine E.mk (fun _ _ => ?_) | refine E.bx (fun _ => ?_) | refine E.al (fun _ => ?_) | refine E.sb ?_ | refine E.dq ?_ | refine E.ct ?_ | refine E.cf ?_ | refine E.cs (fun hh => ?_) (fun hh => ?_) | refine E.at_block_other rfl ?_)
  refine rb ?_
  unfold eok
  simp only []
  by_cases h1 : lok l = true
  · by_cases h2 : nok ⟨al, an⟩ = true
    · by_cases h3 : nok ⟨bl, bn⟩ = true
      · have h4 := cd_ok h2
        have h5 := cd_ok h3
        have h6 : lok al = true := by have := nok_iff.1 h2; exact lok_iff.2 ⟨this.1, this.2.1⟩
        have h7 : lok bl = true := by have := nok_iff.1 h3; exact lok_iff.2 ⟨this.1, this.2.1⟩
        simp [h1, h2, h3, code, h4, h5, lun, h6, h7]
      · simp [h3]
    · simp [h2]
  · simp [h1]
def olab (x : Opn) : Int :=
  if x.k = 1 ∨ x.k = 4 then (if (nok x.n && decide ([x.e.l, x.e.a.l, x.e.a.n, x.e.b.l, x.e.b.n] = [0, 0, 0, 0, 0])) = true then x.n.l else -1)
  else if x.k = 2 ∨ x.k = 3 then (if (eok x.e && decide ([x.n.l, x.n.n] = [0, 0])) = true then x.e.l else -1) else -1
theorem c_s_OpLabel {k nl nn el al an bl bn : Int} (w : World) : Calls Tryz.prog 172 #[.agg #[.int .i64 k, .int .i64 nl, .int .i64 nn, .int .i64 el, .int .i64 al, .int .i64 an, .int .i64 bl, .int .i64 bn]] w (Ret (fun _ : Unit => .int .i64 (olab ⟨k, ⟨nl, nn⟩, ⟨el, ⟨al, an⟩, ⟨bl, bn⟩⟩⟩)) (fun _ => []) w) := by
  refine enter (args := _) Tryz.func172 rfl Tryz.ntmps172 (by simp) ?_
  repeat' (first | refine E.st ?_ | refine E.cl (h := fun _ w _ => c_s_NodeOk w) (k := ?_) | refine E.cl (h := fun _ w _ => c_s_EdgeOk w) (k := ?_)  | refine E.q ?_ | refine E.qs ?_ | refine E.q2 ?_ | refine E.tr ?_ | refine E.ap (fun _ _ => ?_) | refine E.b1 (fun _ _ => ?_) | refine E.b0 (fun _ _ => ?_) | refine E.bsn (fun _ _ => ?_) | refine E.mk (fun _ _ => ?_) | refine E.bx (fun _ => ?_) | refine E.al (fun _ => ?_) | refine E.sb ?_ | refine E.dq ?_ | refine E.ct ?_ | refine E.cf ?_ | refine E.cs (fun hh => ?_) (fun hh => ?_) | refine E.at_block_other rfl ?_)
  all_goals (refine ri ?_; simp only [olab]; grind)
end E
end Go.Proofs.YtpiiapoafmnhhaaGreat
/- Graphs that are right: plain facts on lists, nodes and edges. -/
namespace Go.Proofs.YtpiiapoafmnhhaaGreat
namespace E
set_option linter.unusedVariables false
/-! ### Lists that are looked at one behind the other -/
theorem pw_step {α : Type} {R : α → α → Prop} (tr : ∀ x y z, R x y → R y z → R x z) {xs : List α} {k : Nat} {x : α} (h : (xs.take k).Pairwise R) (hx : xs[k]? = some x) (hp : k = 0 ∨ ∃ y, xs[k - 1]? = some y ∧ R y x) : (xs.take (k + 1)).Pairwise R := by
  rw [List.take_add_one, hx]
  simp only [Option.toList_some]
  rw [List.pairwise_append]
  refine ⟨h, List.pairwise_singleton _ _, fun z hz b hb => ?_⟩
  simp only [List.mem_singleton] at hb
  subst hb
  rcases hp with rfl | ⟨y, hy, hR⟩
  · simp at hz
  · obtain ⟨i, hi⟩ := List.getElem?_of_mem hz
    have hik : i < k := by
      rcases Nat.lt_or_ge i k with h | h
      · exact h
      · rw [List.getElem?_eq_none (by simp; omega)] at hi; cases hi
    rw [List.getElem?_take_of_lt hik] at hi
    rcases Nat.lt_or_ge i (k - 1) with h1 | h1
    · have hl : k - 1 < (xs.take k).length := by
        have := (List.getElem?_eq_some_iff.1 hy).1
        simp; omega
      have hl0 : i < (xs.take k).length := by omega
      have hp := List.pairwise_iff_getElem.1 h i (k - 1) hl0 hl h1
      rw [List.getElem_take, List.getElem_take] at hp
      have e1 : xs[i]'(by simp at hl0; omega) = z := by
        have := List.getElem?_eq_getElem (l := xs) (i := i) (by simp at hl0; omega)
        rw [this] at hi; injection hi
      have e2 : xs[k - 1]'(by simp at hl; omega) = y := by
        have := List.getElem?_eq_getElem (l := xs) (i := k - 1) (by simp at hl; omega)
        rw [this] at hy; injection hy
      rw [e1, e2] at hp
      exact tr _ _ _ hp hR
    · have : i = k - 1 := by omega
      subst this
      rw [hy] at hi
      injection hi with hi
      subst hi
      exact hR
theorem pw_no {α : Type} {R : α → α → Prop} {xs : List α} {k : Nat} {x y : α} (hx : xs[k]? = some x) (hk : 0 < k) (hy : xs[k - 1]? = some y) (hn : ¬ R y x) : ¬ xs.Pairwise R := fun h => by
  obtain ⟨h1, e1⟩ := List.getElem?_eq_some_iff.1 hx
  obtain ⟨h2, e2⟩ := List.getElem?_eq_some_iff.1 hy
  have := List.pairwise_iff_getElem.1 h (k - 1) k h2 h1 (by omega)
  rw [e1, e2] at this
  exact hn this
theorem all_step {α : Type} {p : α → Prop} {xs : List α} {k : Nat} {x : α} (h : ∀ y ∈ xs.take k, p y) (hx : xs[k]? = some x) (hp : p x) : ∀ y ∈ xs.take (k + 1), p y := by
  rw [List.take_add_one, hx]
  intro y hy
  simp only [Option.toList_some, List.mem_append, List.mem_singleton] at hy
  rcases hy with hy | rfl
  · exact h y hy
  · exact hp
theorem mem_of {α : Type} {xs : List α} {k : Nat} {x : α} (hx : xs[k]? = some x) : x ∈ xs := List.mem_of_getElem? hx
theorem count_step {α : Type} {xs : List α} {k : Nat} {x : α} (p : α → Bool) (hx : xs[k]? = some x) : (xs.take (k + 1)).countP p = (xs.take k).countP p + if p x = true then 1 else 0 := by
  rw [List.take_add_one, hx, List.countP_append]
  simp [List.countP_cons]
theorem count_lt {α : Type} {xs : List α} (k : Nat) (p : α → Bool) : (xs.take k).countP p ≤ k := by
  have := List.countP_le_length (p := p) (l := xs.take k)
  simp at this
  omega
theorem count_take_le {α : Type} {xs : List α} {k : Nat} (p : α → Bool) : (xs.take k).countP p ≤ xs.countP p := (List.take_sublist k xs).countP_le
def labs : List Int := [0, 1, 2, 3, 4, 5, 6, 7]
theorem mem_labs {a : Int} : a ∈ labs ↔ 0 ≤ a ∧ a ≤ 7 := by simp [labs]; omega
theorem len_counts {α : Type} (f : α → Int) (xs : List α) (h : ∀ x ∈ xs, 0 ≤ f x ∧ f x ≤ 7) (m : Nat) (hm : ∀ a ∈ labs, xs.countP (fun x => decide (f x = a)) ≤ m) : xs.length ≤ 8 * m := by
  have key : xs.length = (labs.map fun a => xs.countP (fun x => decide (f x = a))).sum := by
    clear hm
    induction xs with
    | nil => simp [labs]
    | cons x xs ih =>
      have ih' := ih (fun y hy => h y (List.mem_cons_of_mem _ hy))
      have hx := h x List.mem_cons_self
      simp only [labs, List.map_cons, List.map_nil, List.sum_cons, List.sum_nil, List.length_cons, List.countP_cons] at ih' ⊢
      have : f x = 0 ∨ f x = 1 ∨ f x = 2 ∨ f x = 3 ∨ f x = 4 ∨ f x = 5 ∨ f x = 6 ∨ f x = 7 := by omega
      rcases this with e | e | e | e | e | e | e | e <;> simp only [e] <;> simp <;> omega
  have h0 := hm 0 (by simp [labs]); have h1 := hm 1 (by simp [labs]); have h2 := hm 2 (by simp [labs]); have h3 := hm 3 (by simp [labs])
  have h4 := hm 4 (by simp [labs]); have h5 := hm 5 (by simp [labs]); have h6 := hm 6 (by simp [labs]); have h7 := hm 7 (by simp [labs])
  simp only [labs, List.map_cons, List.map_nil, List.sum_cons, List.sum_nil] at key
  omega

/-! ### Places -/
def pos (ns : List Nd) (n : Nd) : Int := match ns.findIdx? (fun x => decide (x = n)) with
  | some i => i
  | none => -1
theorem pos_some {ns : List Nd} {n : Nd} {k : Nat} (hx : ns[k]? = some n) (h : ∀ y ∈ ns.take k, y ≠ n) : pos ns n = k := by
  obtain ⟨hk, e⟩ := List.getElem?_eq_some_iff.1 hx
  have : ns.findIdx? (fun x => decide (x = n)) = some k := by
    rw [List.findIdx?_eq_some_iff_getElem]
    refine ⟨hk, by simp [e], fun j hj => ?_⟩
    simp only [decide_eq_true_eq]
    refine h _ ?_
    rw [List.mem_take_iff_getElem]
    exact ⟨j, by omega, rfl⟩
  simp [pos, this]
theorem pos_none {ns : List Nd} {n : Nd} (h : n ∉ ns) : pos ns n = -1 := by
  have : ns.findIdx? (fun x => decide (x = n)) = none := by
    rw [List.findIdx?_eq_none_iff]
    intro x hx
    simp only [decide_eq_false_iff_not]
    rintro rfl
    exact h hx
  simp [pos, this]
theorem pos_ok {ns : List Nd} {n : Nd} (h : n ∈ ns) : ∃ k : Nat, pos ns n = k ∧ ns[k]? = some n ∧ ∀ y ∈ ns.take k, y ≠ n := by
  cases hf : ns.findIdx? (fun x => decide (x = n)) with
  | none =>
    rw [List.findIdx?_eq_none_iff] at hf
    have := hf n h
    simp at this
  | some k =>
    have h2 := hf
    rw [List.findIdx?_eq_some_iff_getElem] at hf
    obtain ⟨hk, e, hlt⟩ := hf
    simp only [decide_eq_true_eq] at e
    refine ⟨k, by simp [pos, h2], by rw [List.getElem?_eq_getElem hk, e], fun y hy => ?_⟩
    rw [List.mem_take_iff_getElem] at hy
    obtain ⟨j, hj, rfl⟩ := hy
    have := hlt j (by omega)
    simpa using this
theorem pos_neg {ns : List Nd} {n : Nd} : pos ns n < 0 ↔ n ∉ ns := by
  constructor
  · intro h hn
    obtain ⟨k, e, _⟩ := pos_ok hn
    omega
  · intro h
    rw [pos_none h]
    omega

/-! ### Graphs that are right -/
def ekey (e : Eg) : Int := e.l * 1000000 + cd e.a * 1000 + cd e.b
theorem cd_bd {x : Nd} (h : nok x = true) : 0 ≤ cd x ∧ cd x ≤ 488 := by
  have := nok_iff.1 h
  rw [cd_ok h]
  omega
theorem cd_inj {x y : Nd} (hx : nok x = true) (hy : nok y = true) (h : cd x = cd y) : x = y := by
  have h1 := nok_iff.1 hx
  have h2 := nok_iff.1 hy
  rw [cd_ok hx, cd_ok hy] at h
  cases x; cases y
  simp only [Nd.mk.injEq] at *
  omega
theorem eok_parts {e : Eg} (h : eok e = true) : lok e.l = true ∧ nok e.a = true ∧ nok e.b = true ∧ cd e.a < cd e.b ∧ und e.a.l e.l = true ∧ und e.b.l e.l = true := by
  simp only [eok, Bool.and_eq_true, decide_eq_true_eq] at h
  obtain ⟨⟨⟨⟨⟨a, b⟩, c⟩, d⟩, f⟩, g⟩ := h
  exact ⟨a, b, c, d, f, g⟩
theorem ekey_inj {x y : Eg} (hx : eok x = true) (hy : eok y = true) (h : ekey x = ekey y) : x = y := by
  obtain ⟨a1, a2, a3, _⟩ := eok_parts hx
  obtain ⟨b1, b2, b3, _⟩ := eok_parts hy
  have h1 := cd_bd a2; have h2 := cd_bd a3; have h3 := cd_bd b2; have h4 := cd_bd b3
  have l1 := lok_iff.1 a1; have l2 := lok_iff.1 b1
  unfold ekey at h
  have e1 : x.l = y.l := by omega
  have e2 : cd x.a = cd y.a := by omega
  have e3 : cd x.b = cd y.b := by omega
  have e4 := cd_inj a2 b2 e2
  have e5 := cd_inj a3 b3 e3
  cases x; cases y
  simp_all
def lessE (x y : Eg) : Bool := if x.l ≠ y.l then decide (x.l < y.l) else if x.a ≠ y.a then decide (cd x.a < cd y.a) else decide (cd x.b < cd y.b)
theorem lessE_key {x y : Eg} (hx : eok x = true) (hy : eok y = true) : lessE x y = true ↔ ekey x < ekey y := by
  obtain ⟨a1, a2, a3, _⟩ := eok_parts hx
  obtain ⟨b1, b2, b3, _⟩ := eok_parts hy
  have h1 := cd_bd a2; have h2 := cd_bd a3; have h3 := cd_bd b2; have h4 := cd_bd b3
  have l1 := lok_iff.1 a1; have l2 := lok_iff.1 b1
  unfold lessE ekey
  split
  · simp only [decide_eq_true_eq]; omega
  · split
    · rename_i e1 e2
      have : cd x.a ≠ cd y.a := fun e => e2 (cd_inj a2 b2 e)
      simp only [decide_eq_true_eq]; omega
    · rename_i e1 e2
      have : x.a = y.a := by simpa using e2
      simp only [decide_eq_true_eq, this]; omega
/-- How many there are of each label. -/
def cnts {α : Type} (f : α → Int) (xs : List α) : List Int := labs.map fun a => ((xs.countP (fun x => decide (f x = a)) : Nat) : Int)
theorem cnts_length {α : Type} (f : α → Int) (xs : List α) : (cnts f xs).length = 8 := by simp [cnts, labs]
theorem cnts_get {α : Type} (f : α → Int) (xs : List α) {a : Int} (h : 0 ≤ a ∧ a ≤ 7) : (cnts f xs)[a.toNat]? = some ((xs.countP (fun x => decide (f x = a)) : Nat) : Int) := by
  have : a = 0 ∨ a = 1 ∨ a = 2 ∨ a = 3 ∨ a = 4 ∨ a = 5 ∨ a = 6 ∨ a = 7 := by omega
  rcases this with rfl | rfl | rfl | rfl | rfl | rfl | rfl | rfl <;> rfl
theorem cnts_set {α : Type} (f : α → Int) {xs : List α} {k : Nat} {x : α} (hx : xs[k]? = some x) (h : 0 ≤ f x ∧ f x ≤ 7) : (cnts f (xs.take k)).set (f x).toNat (((xs.take k).countP (fun y => decide (f y = f x)) : Nat) + 1) = cnts f (xs.take (k + 1)) := by
  have h0 : ∀ a : Int, (xs.take (k + 1)).countP (fun y => decide (f y = a)) = (xs.take k).countP (fun y => decide (f y = a)) + if decide (f x = a) = true then 1 else 0 := fun a => count_step _ hx
  unfold cnts
  simp only [h0]
  generalize f x = b at *
  have : b = 0 ∨ b = 1 ∨ b = 2 ∨ b = 3 ∨ b = 4 ∨ b = 5 ∨ b = 6 ∨ b = 7 := by omega
  rcases this with rfl | rfl | rfl | rfl | rfl | rfl | rfl | rfl <;> simp [labs]
def NOk (ns : List Nd) : Prop := (∀ x ∈ ns, nok x = true) ∧ ns.Pairwise (fun x y => cd x < cd y) ∧ ∀ a ∈ labs, ns.countP (fun x => decide (x.l = a)) ≤ 5
def EOk (ns : List Nd) (es : List Eg) : Prop := (∀ e ∈ es, eok e = true ∧ e.a ∈ ns ∧ e.b ∈ ns) ∧ es.Pairwise (fun x y => ekey x < ekey y) ∧ ∀ a ∈ labs, es.countP (fun x => decide (x.l = a)) ≤ 7
instance (ns : List Nd) : Decidable (NOk ns) := by unfold NOk; exact inferInstance
instance (ns : List Nd) (es : List Eg) : Decidable (EOk ns es) := by unfold EOk; exact inferInstance
def gok (ns : List Nd) (es : List Eg) : Bool := decide (NOk ns) && decide (EOk ns es)
theorem gok_iff {ns : List Nd} {es : List Eg} : gok ns es = true ↔ NOk ns ∧ EOk ns es := by simp [gok]
theorem gok_no_n {ns : List Nd} {es : List Eg} (h : ¬ NOk ns) : gok ns es = false := by simp [gok, h]
theorem gok_no_e {ns : List Nd} {es : List Eg} (h : ¬ EOk ns es) : gok ns es = false := by simp [gok, h]
theorem NOk.len {ns : List Nd} (h : NOk ns) : ns.length ≤ 40 := len_counts (·.l) ns (fun x hx => by have := nok_iff.1 (h.1 x hx); omega) 5 h.2.2
theorem EOk.len {ns : List Nd} {es : List Eg} (h : EOk ns es) : es.length ≤ 56 := len_counts (·.l) es (fun x hx => by have := lok_iff.1 (eok_parts (h.1 x hx).1).1; omega) 7 h.2.2
end E
end Go.Proofs.YtpiiapoafmnhhaaGreat
/- Contracts on graphs: places, counts, and whether a graph is right; the reference's side, and the program's nodes. -/
namespace Go.Proofs.YtpiiapoafmnhhaaGreat
namespace E
open Go Go.RowKit
set_option linter.unusedSimpArgs false
set_option linter.unusedVariables false
set_option maxHeartbeats 1000000
set_option maxRecDepth 10000
attribute [local irreducible] HC HL HQ HX HO At Y YV Opd Opds KnX Sl Ld Src GV RV Calls Code.wp eptr adr RdF ownF OneX HG LdC
theorem nd_ne {x : Nd} {l n : Int} : ¬ [x.l, x.n] = [l, n] ↔ x ≠ ⟨l, n⟩ := by
  cases x; simp
theorem c_s_l2At {v u : Value} {ns : List Nd} {l n : Int} (w : World) (hr : RdF w v ns := by exact rdA) : Calls Tryz.prog 88 #[.agg #[v, u], .agg #[.int .i64 l, .int .i64 n]] w (Ret (fun _ : Unit => .int .i64 (pos ns ⟨l, n⟩)) (fun _ => []) w) := by
  have m1 := hr.le
  have o1 := hr.one
  simp only [maxLen] at m1
  refine enter (args := _) Tryz.func88 rfl Tryz.ntmps88 (by simp) ?_
  repeat' (first | refine E.st ?_ | refine E.q ?_ | refine E.qs ?_ | refine E.q2 ?_ | refine E.tr ?_ | refine E.ap (fun _ _ => ?_) | refine E.b1 (fun _ _ => ?_) | refine E.b0 (fun _ _ => ?_) | refine E.bsn (fun _ _ => ?_) | refine E.mk (fun _ _ => ?_) | refine E.bx (fun _ => ?_) | refine E.al (fun _ => ?_) | refine E.sb ?_ | refine E.dq ?_ | refine E.ct ?_ | refine E.cf ?_ | refine E.cs (fun hh => ?_) (fun hh => ?_) | refine E.at_block_other rfl ?_)
  refine lq (fun k : Nat => k ≤ ns.length ∧ ∀ y ∈ ns.take k, y ≠ ⟨l, n⟩) (fun k => [(5, .pl (.int .i64 (k : Int)))]) (fun _ => []) (fun k => ns.length - k) 0 ⟨Nat.zero_le _, by simp⟩ (fun k hk0 => ?_)
  obtain ⟨hk1, hk2⟩ := hk0
  rcases Nat.lt_or_ge k ns.length with hlt | hge
  · obtain ⟨x, hx⟩ := get_lt hlt
    repeat' (first | refine E.st ?_ | refine E.q ?_ | refine E.qs ?_ | refine E.q2 ?_ | refine E.tr ?_ | refine E.ap (fun _ _ => ?_) | refine E.b1 (fun _ _ => ?_) | refine E.b0 (fun _ _ => ?_) | refine E.bsn (fun _ _ => ?_) | refine E.mk (fun _ _ => ?_) | refine E.bx (fun _ => ?_) | refine E.al (fun _ => ?_) | refine E.sb ?_ | refine E.dq ?_ | refine E.ct ?_ | refine E.cf ?_ | refine E.cs (fun hh => ?_) (fun hh => ?_) | refine E.at_block_other rfl ?_)
    · refine ri ?_
      have : x = ⟨l, n⟩ := Decidable.not_not.1 (fun h => nd_ne.2 h hh)
      rw [pos_some (by rw [hx, this]) hk2]
    · exact rd (k + 1) ⟨by omega, all_step hk2 hx (nd_ne.1 hh)⟩
  · repeat' (first | refine E.st ?_ | refine E.q ?_ | refine E.qs ?_ | refine E.q2 ?_ | refine E.tr ?_ | refine E.ap (fun _ _ => ?_) | refine E.b1 (fun _ _ => ?_) | refine E.b0 (fun _ _ => ?_) | refine E.bsn (fun _ _ => ?_) | refine E.mk (fun _ _ => ?_) | refine E.bx (fun _ => ?_) | refine E.al (fun _ => ?_) | refine E.sb ?_ | refine E.dq ?_ | refine E.ct ?_ | refine E.cf ?_ | refine E.cs (fun hh => ?_) (fun hh => ?_) | refine E.at_block_other rfl ?_)
    refine ri ?_
    rw [List.take_of_length_le hge] at hk2
    rw [pos_none (fun h => hk2 _ h rfl)]
def nlab (ns : List Nd) (a : Int) : Nat := ns.countP (fun x => decide (x.l = a))
def elbC (es : List Eg) (a : Int) : Nat := es.countP (fun x => decide (x.l = a))
theorem c_s_l2Nodes {v u : Value} {ns : List Nd} {a : Int} (w : World) (hr : RdF w v ns := by exact rdA) : Calls Tryz.prog 89 #[.agg #[v, u], .int .i64 a] w (Ret (fun _ : Unit => .int .i64 ((nlab ns a : Nat) : Int)) (fun _ => []) w) := by
  have m1 := hr.le
  have o1 := hr.one
  simp only [maxLen] at m1
  refine enter (args := _) Tryz.func89 rfl Tryz.ntmps89 (by simp) ?_
  repeat' (first | refine E.st ?_ | refine E.q ?_ | refine E.qs ?_ | refine E.q2 ?_ | refine E.tr ?_ | refine E.ap (fun _ _ => ?_) | refine E.b1 (fun _ _ => ?_) | refine E.b0 (fun _ _ => ?_) | refine E.bsn (fun _ _ => ?_) | refine E.mk (fun _ _ => ?_) | refine E.bx (fun _ => ?_) | refine E.al (fun _ => ?_) | refine E.sb ?_ | refine E.dq ?_ | refine E.ct ?_ | refine E.cf ?_ | refine E.cs (fun hh => ?_) (fun hh => ?_) | refine E.at_block_other rfl ?_)
  refine lq (fun k : Nat => k ≤ ns.length) (fun k => [(5, .pl (.int .i64 ((nlab (ns.take k) a : Nat) : Int))), (6, .pl (.int .i64 (k : Int)))]) (fun _ => []) (fun k => ns.length - k) 0 (Nat.zero_le _) (fun k hk => ?_)
  rcases Nat.lt_or_ge k ns.length with hlt | hge
  · obtain ⟨x, hx⟩ := get_lt hlt
    have hs := count_step (fun x => decide (x.l = a)) hx
    have hl := count_lt (xs := ns) k (fun x : Nd => decide (x.l = a))
    change nlab _ _ = nlab _ _ + _ at hs
    change nlab _ _ ≤ _ at hl
    repeat' (first | refine E.st ?_ | refine E.q ?_ | refine E.qs ?_ | refine E.q2 ?_ | refine E.tr ?_ | refine E.ap (fun _ _ => ?_) | refine E.b1 (fun _ _ => ?_) | refine E.b0 (fun _ _ => ?_) | refine E.bsn (fun _ _ => ?_) | refine E.mk (fun _ _ => ?_) | refine E.bx (fun _ => ?_) | refine E.al (fun _ => ?_) | refine E.sb ?_ | refine E.dq ?_ | refine E.ct ?_ | refine E.cf ?_ | refine E.cs (fun hh => ?_) (fun hh => ?_) | refine E.at_block_other rfl ?_)
    all_goals (simp only [hh, decide_true, decide_false, if_true, if_false, Bool.false_eq_true] at hs; exact rd (k + 1) (by omega))
  · repeat' (first | refine E.st ?_ | refine E.q ?_ | refine E.qs ?_ | refine E.q2 ?_ | refine E.tr ?_ | refine E.ap (fun _ _ => ?_) | refine E.b1 (fun _ _ => ?_) | refine E.b0 (fun _ _ => ?_) | refine E.bsn (fun _ _ => ?_) | refine E.mk (fun _ _ => ?_) | refine E.bx (fun _ => ?_) | refine E.al (fun _ => ?_) | refine E.sb ?_ | refine E.dq ?_ | refine E.ct ?_ | refine E.cf ?_ | refine E.cs (fun hh => ?_) (fun hh => ?_) | refine E.at_block_other rfl ?_)
    rw [List.take_of_length_le hge]
    exact ri
theorem c_s_l2Edges {v u : Value} {es : List Eg} {a : Int} (w : World) (hr : RdF w u es := by exact rdA) (o2 : v.oneCell' = true := by assumption) : Calls Tryz.prog 90 #[.agg #[v, u], .int .i64 a] w (Ret (fun _ : Unit => .int .i64 ((elbC es a : Nat) : Int)) (fun _ => []) w) := by
  have m1 := hr.le
  have o1 := hr.one
  simp only [maxLen] at m1
  refine enter (args := _) Tryz.func90 rfl Tryz.ntmps90 (by simp) ?_
  repeat' (first | refine E.st ?_ | refine E.q ?_ | refine E.qs ?_ | refine E.q2 ?_ | refine E.tr ?_ | refine E.ap (fun _ _ => ?_) | refine E.b1 (fun _ _ => ?_) | refine E.b0 (fun _ _ => ?_) | refine E.bsn (fun _ _ => ?_) | refine E.mk (fun _ _ => ?_) | refine E.bx (fun _ => ?_) | refine E.al (fun _ => ?_) | refine E.sb ?_ | refine E.dq ?_ | refine E.ct ?_ | refine E.cf ?_ | refine E.cs (fun hh => ?_) (fun hh => ?_) | refine E.at_block_other rfl ?_)
  refine lq (fun k : Nat => k ≤ es.length) (fun k => [(5, .pl (.int .i64 ((elbC (es.take k) a : Nat) : Int))), (6, .pl (.int .i64 (k : Int)))]) (fun _ => []) (fun k => es.length - k) 0 (Nat.zero_le _) (fun k hk => ?_)
  rcases Nat.lt_or_ge k es.length with hlt | hge
  · obtain ⟨x, hx⟩ := get_lt hlt
    have hs := count_step (fun x => decide (x.l = a)) hx
    have hl := count_lt (xs := es) k (fun x : Eg => decide (x.l = a))
    change elbC _ _ = elbC _ _ + _ at hs
    change elbC _ _ ≤ _ at hl
    repeat' (first | refine E.st ?_ | refine E.q ?_ | refine E.qs ?_ | refine E.q2 ?_ | refine E.tr ?_ | refine E.ap (fun _ _ => ?_) | refine E.b1 (fun _ _ => ?_) | refine E.b0 (fun _ _ => ?_) | refine E.bsn (fun _ _ => ?_) | refine E.mk (fun _ _ => ?_) | refine E.bx (fun _ => ?_) | refine E.al (fun _ => ?_) | refine E.sb ?_ | refine E.dq ?_ | refine E.ct ?_ | refine E.cf ?_ | refine E.cs (fun hh => ?_) (fun hh => ?_) | refine E.at_block_other rfl ?_)
    all_goals (simp only [hh, decide_true, decide_false, if_true, if_false, Bool.false_eq_true] at hs; exact rd (k + 1) (by omega))
  · repeat' (first | refine E.st ?_ | refine E.q ?_ | refine E.qs ?_ | refine E.q2 ?_ | refine E.tr ?_ | refine E.ap (fun _ _ => ?_) | refine E.b1 (fun _ _ => ?_) | refine E.b0 (fun _ _ => ?_) | refine E.bsn (fun _ _ => ?_) | refine E.mk (fun _ _ => ?_) | refine E.bx (fun _ => ?_) | refine E.al (fun _ => ?_) | refine E.sb ?_ | refine E.dq ?_ | refine E.ct ?_ | refine E.cf ?_ | refine E.cs (fun hh => ?_) (fun hh => ?_) | refine E.at_block_other rfl ?_)
    rw [List.take_of_length_le hge]
    exact ri
theorem c_s_l2Less {l al an bl bn l' al' an' bl' bn' : Int} (w : World) : Calls Tryz.prog 87 #[.agg #[.int .i64 l, .int .i64 al, .int .i64 an, .int .i64 bl, .int .i64 bn], .agg #[.int .i64 l', .int .i64 al', .int .i64 an', .int .i64 bl', .int .i64 bn']] w (Ret (fun _ : Unit => .bool (lessE ⟨l, ⟨al, an⟩, ⟨bl, bn⟩⟩ ⟨l', ⟨al', an'⟩, ⟨bl', bn'⟩⟩)) (fun _ => []) w) := by
  refine enter (args := _) Tryz.func87 rfl Tryz.ntmps87 (by simp) ?_
  repeat' (first | refine E.st ?_ | refine E.cl (h := fun _ w _ => c_s_l2Code w) (k := ?_)  | refine E.q ?_ | refine E.qs ?_ | refine E.q2 ?_ | refine E.tr ?_ | refine E.ap (fun _ _ => ?_) | refine E.b1 (fun _ _ => ?_) | refine E.b0 (fun _ _ => ?_) | refine E.bsn (fun _ _ => ?_) | refine E.mk (fun _ _ => ?_) | refine E.bx (fun _ => ?_) | refine E.al (fun _ => ?_) | refine E.sb ?_ | refine E.dq ?_ | refine E.ct ?_ | refine E.cf ?_ | refine E.cs (fun hh => ?_) (fun hh => ?_) | refine E.at_block_other rfl ?_)
  all_goals (refine rb ?_; simp only [lessE]; grind)
theorem prev {α : Type} {xs : List α} {k : Nat} (h : k < xs.length) : ∃ y, xs[((k : Int) - 1).toNat]? = some y := get_lt (by omega)
theorem prev_eq {α : Type} {xs : List α} {k : Nat} {y : α} (hk : 0 < k) (hy : xs[((k : Int) - 1).toNat]? = some y) : xs[k - 1]? = some y := by
  have : ((k : Int) - 1).toNat = k - 1 := by omega
  rwa [this] at hy
theorem nodes_no {ns : List Nd} {k : Nat} {x y : Nd} (hx : ns[k]? = some x) (hy : ns[((k : Int) - 1).toNat]? = some y) (h : (nok x = false ∨ (0 < (k : Int) ∧ cd x ≤ cd y)) ∨ 40 ≤ (k : Int)) : ¬ NOk ns := fun hn => by
  rcases h with (h | ⟨h1, h2⟩) | h
  · rw [hn.1 x (mem_of hx)] at h; cases h
  · exact pw_no hx (by omega) (prev_eq (by omega) hy) (by omega) hn.2.1
  · have := hn.len
    have := (List.getElem?_eq_some_iff.1 hx).1
    omega
theorem trans_cd : ∀ x y z : Nd, cd x < cd y → cd y < cd z → cd x < cd z := fun _ _ _ h h' => Int.lt_trans h h'
theorem trans_ek : ∀ x y z : Eg, ekey x < ekey y → ekey y < ekey z → ekey x < ekey z := fun _ _ _ h h' => Int.lt_trans h h'
theorem nodes_st {ns : List Nd} {k : Nat} {x y : Nd} (hx : ns[k]? = some x) (hy : ns[((k : Int) - 1).toNat]? = some y) (h : (ns.take k).Pairwise (fun x y => cd x < cd y)) (h1 : ¬ 0 < (k : Int) ∨ ¬ cd x ≤ cd y) : (ns.take (k + 1)).Pairwise (fun x y => cd x < cd y) := by
  refine pw_step trans_cd h hx ?_
  rcases Nat.eq_zero_or_pos k with h0 | h0
  · exact Or.inl h0
  · exact Or.inr ⟨y, prev_eq h0 hy, by omega⟩
theorem edges_st {es : List Eg} {k : Nat} {x y : Eg} (hx : es[k]? = some x) (hy : es[((k : Int) - 1).toNat]? = some y) (h : (es.take k).Pairwise (fun x y => ekey x < ekey y)) (h1 : ¬ 0 < (k : Int) ∨ ekey y < ekey x) : (es.take (k + 1)).Pairwise (fun x y => ekey x < ekey y) := by
  refine pw_step trans_ek h hx ?_
  rcases Nat.eq_zero_or_pos k with h0 | h0
  · exact Or.inl h0
  · exact Or.inr ⟨y, prev_eq h0 hy, by omega⟩
theorem mem_prev {α : Type} {xs : List α} {k : Nat} {y : α} (hk : 0 < k) (hy : xs[((k : Int) - 1).toNat]? = some y) : y ∈ xs.take k := by
  have := prev_eq hk hy
  rw [List.mem_take_iff_getElem]
  obtain ⟨h, e⟩ := List.getElem?_eq_some_iff.1 this
  exact ⟨k - 1, by omega, e⟩
theorem edges_no {ns : List Nd} {es : List Eg} {k : Nat} {x y : Eg} (hall : ∀ e ∈ es.take k, eok e = true ∧ e.a ∈ ns ∧ e.b ∈ ns) (hx : es[k]? = some x) (hy : es[((k : Int) - 1).toNat]? = some y) (h : (((eok x = false ∨ (0 < (k : Int) ∧ lessE y x = false)) ∨ pos ns x.a < 0) ∨ pos ns x.b < 0) ∨ 56 ≤ (k : Int)) : ¬ EOk ns es := fun hn => by
  have hm := hn.1 x (mem_of hx)
  rcases h with (((h | ⟨h1, h2⟩) | h) | h) | h
  · rw [hm.1] at h; cases h
  · refine pw_no hx (by omega) (prev_eq (by omega) hy) (fun hlt => ?_) hn.2.1
    rw [(lessE_key (hall y (mem_prev (by omega) hy)).1 hm.1).2 hlt] at h2
    cases h2
  · exact pos_neg.1 h hm.2.1
  · exact pos_neg.1 h hm.2.2
  · have := hn.len
    have := (List.getElem?_eq_some_iff.1 hx).1
    omega
theorem mem_pos {ns : List Nd} {x : Nd} (h : ¬ pos ns x < 0) : x ∈ ns := Decidable.not_not.1 (fun hn => h (pos_neg.2 hn))
theorem c_s_GraphOk {v u : Value} {ns : List Nd} {es : List Eg} (w : World) (hr : RdF w v ns := by exact rdA) (hq : RdF w u es := by exact rdA) : Calls Tryz.prog 28 #[.agg #[v, u]] w (Ret (fun _ : Unit => .bool (gok ns es)) (fun _ => []) w) := by
  have m1 := hr.le
  have o1 := hr.one
  have m2 := hq.le
  have o2 := hq.one
  simp only [maxLen] at m1 m2
  refine enter (args := _) Tryz.func28 rfl Tryz.ntmps28 (by simp) ?_
  repeat' (first | refine E.st ?_ | refine E.q ?_ | refine E.qs ?_ | refine E.q2 ?_ | refine E.tr ?_ | refine E.ap (fun _ _ => ?_) | refine E.b1 (fun _ _ => ?_) | refine E.b0 (fun _ _ => ?_) | refine E.bsn (fun _ _ => ?_) | refine E.mk (fun _ _ => ?_) | refine E.bx (fun _ => ?_) | refine E.al (fun _ => ?_) | refine E.sb ?_ | refine E.dq ?_ | refine E.ct ?_ | refine E.cf ?_ | refine E.cs (fun hh => ?_) (fun hh => ?_) | refine E.at_block_other rfl ?_)
  refine lq (fun k : Nat => k ≤ ns.length ∧ k ≤ 40 ∧ (∀ x ∈ ns.take k, nok x = true) ∧ (ns.take k).Pairwise (fun x y => cd x < cd y)) (fun k => [(3, .pl (.int .i64 (k : Int)))]) (fun _ => []) (fun k => ns.length - k) 0 ⟨Nat.zero_le _, by omega, by simp, by simp⟩ (fun k hk0 => ?_)
  obtain ⟨hk1, hk4, hk2, hk3⟩ := hk0
  rcases Nat.lt_or_ge k ns.length with hlt | hge
  · obtain ⟨x, hx⟩ := get_lt hlt
    obtain ⟨y, hy⟩ := prev hlt
    repeat' (first | refine E.st ?_ | refine E.cl (h := fun _ w _ => c_s_NodeOk w) (k := ?_) | refine E.cl (h := fun _ w _ => c_s_l2Code w) (k := ?_)  | refine E.q ?_ | refine E.qs ?_ | refine E.q2 ?_ | refine E.tr ?_ | refine E.ap (fun _ _ => ?_) | refine E.b1 (fun _ _ => ?_) | refine E.b0 (fun _ _ => ?_) | refine E.bsn (fun _ _ => ?_) | refine E.mk (fun _ _ => ?_) | refine E.bx (fun _ => ?_) | refine E.al (fun _ => ?_) | refine E.sb ?_ | refine E.dq ?_ | refine E.ct ?_ | refine E.cf ?_ | refine E.cs (fun hh => ?_) (fun hh => ?_) | refine E.at_block_other rfl ?_)
    · exact rb (gok_no_n (nodes_no hx hy hh)).symm
    · obtain ⟨⟨h1, h2⟩, h3⟩ := hh
      exact rd (k + 1) ⟨by omega, by omega, all_step hk2 hx h1, nodes_st hx hy hk3 h2⟩
  rw [List.take_of_length_le hge] at hk2 hk3
  repeat' (first | refine E.st ?_ | refine E.q ?_ | refine E.qs ?_ | refine E.q2 ?_ | refine E.tr ?_ | refine E.ap (fun _ _ => ?_) | refine E.b1 (fun _ _ => ?_) | refine E.b0 (fun _ _ => ?_) | refine E.bsn (fun _ _ => ?_) | refine E.mk (fun _ _ => ?_) | refine E.bx (fun _ => ?_) | refine E.al (fun _ => ?_) | refine E.sb ?_ | refine E.dq ?_ | refine E.ct ?_ | refine E.cf ?_ | refine E.cs (fun hh => ?_) (fun hh => ?_) | refine E.at_block_other rfl ?_)
  refine lq (fun k : Nat => k ≤ es.length ∧ k ≤ 56 ∧ (∀ e ∈ es.take k, eok e = true ∧ e.a ∈ ns ∧ e.b ∈ ns) ∧ (es.take k).Pairwise (fun x y => ekey x < ekey y)) (fun k => [(4, .pl (.int .i64 (k : Int)))]) (fun _ => []) (fun k => es.length - k) 0 ⟨Nat.zero_le _, by omega, by simp, by simp⟩ (fun j hj0 => ?_)
  obtain ⟨hj1, hj4, hj2, hj3⟩ := hj0
  rcases Nat.lt_or_ge j es.length with hlt | hge'
  · obtain ⟨x, hx⟩ := get_lt hlt
    obtain ⟨y, hy⟩ := prev hlt
    repeat' (first | refine E.st ?_ | refine E.cl (h := fun _ w _ => c_s_EdgeOk w) (k := ?_) | refine E.cl (h := fun _ w _ => c_s_l2Less w) (k := ?_) | refine cl (h := fun _ w _ => c_s_l2At w) (k := ?_) | refine E.q ?_ | refine E.qs ?_ | refine E.q2 ?_ | refine E.tr ?_ | refine E.ap (fun _ _ => ?_) | refine E.b1 (fun _ _ => ?_) | refine E.b0 (fun _ _ => ?_) | refine E.bsn (fun _ _ => ?_) | refine E.mk (fun _ _ => ?_) | refine E.bx (fun _ => ?_) | refine E.al (fun _ => ?_) | refine E.sb ?_ | refine E.dq ?_ | refine E.ct ?_ | refine E.cf ?_ | refine E.cs (fun hh => ?_) (fun hh => ?_) | refine E.at_block_other rfl ?_)
    · exact rb (gok_no_e (edges_no hj2 hx hy hh)).symm
    · obtain ⟨⟨⟨⟨h1, h2⟩, h3⟩, h4⟩, h5⟩ := hh
      refine rd (j + 1) ⟨by omega, by omega, all_step hj2 hx ⟨h1, mem_pos h3, mem_pos h4⟩, edges_st hx hy hj3 ?_⟩
      rcases Nat.eq_zero_or_pos j with h0 | h0
      · exact Or.inl (by omega)
      · rcases h2 with h2 | h2
        · exact Or.inl h2
        · exact Or.inr ((lessE_key (hj2 y (mem_prev h0 hy)).1 h1).1 h2)
  rw [List.take_of_length_le hge'] at hj2 hj3
  repeat' (first | refine E.st ?_ | refine E.q ?_ | refine E.qs ?_ | refine E.q2 ?_ | refine E.tr ?_ | refine E.ap (fun _ _ => ?_) | refine E.b1 (fun _ _ => ?_) | refine E.b0 (fun _ _ => ?_) | refine E.bsn (fun _ _ => ?_) | refine E.mk (fun _ _ => ?_) | refine E.bx (fun _ => ?_) | refine E.al (fun _ => ?_) | refine E.sb ?_ | refine E.dq ?_ | refine E.ct ?_ | refine E.cf ?_ | refine E.cs (fun hh => ?_) (fun hh => ?_) | refine E.at_block_other rfl ?_)
  refine lq (fun a : Nat => a ≤ 8 ∧ ∀ b : Nat, b < a → nlab ns b ≤ 5 ∧ elbC es b ≤ 7) (fun k => [(6, .pl (.int .i64 (k : Int)))]) (fun _ => []) (fun k => 8 - k) 0 ⟨by omega, fun b hb => absurd hb (by omega)⟩ (fun a ha0 => ?_)
  obtain ⟨ha1, ha2⟩ := ha0
  rcases Nat.lt_or_ge a 8 with hlt | hge''
  · repeat' (first | refine E.st ?_ | refine E.cl (h := fun _ w _ => c_s_l2Nodes w) (k := ?_) | refine E.cl (h := fun _ w _ => c_s_l2Edges w) (k := ?_)  | refine E.q ?_ | refine E.qs ?_ | refine E.q2 ?_ | refine E.tr ?_ | refine E.ap (fun _ _ => ?_) | refine E.b1 (fun _ _ => ?_) | refine E.b0 (fun _ _ => ?_) | refine E.bsn (fun _ _ => ?_) | refine E.mk (fun _ _ => ?_) | refine E.bx (fun _ => ?_) | refine E.al (fun _ => ?_) | refine E.sb ?_ | refine E.dq ?_ | refine E.ct ?_ | refine E.cf ?_ | refine E.cs (fun hh => ?_) (fun hh => ?_) | refine E.at_block_other rfl ?_)
    · refine rb ?_
      have hm : (a : Int) ∈ labs := mem_labs.2 (by omega)
      rcases hh with h | h
      · exact (gok_no_n (fun hn => by have := hn.2.2 _ hm; simp only [nlab] at h; omega)).symm
      · exact (gok_no_e (fun hn => by have := hn.2.2 _ hm; simp only [elbC] at h; omega)).symm
    · refine rd (a + 1) ⟨by omega, fun b hb => ?_⟩
      rcases Nat.lt_or_ge b a with h | h
      · exact ha2 b h
      · have : b = a := by omega
        subst this
        obtain ⟨h1, h2⟩ := hh
        omega
  · repeat' (first | refine E.st ?_ | refine E.q ?_ | refine E.qs ?_ | refine E.q2 ?_ | refine E.tr ?_ | refine E.ap (fun _ _ => ?_) | refine E.b1 (fun _ _ => ?_) | refine E.b0 (fun _ _ => ?_) | refine E.bsn (fun _ _ => ?_) | refine E.mk (fun _ _ => ?_) | refine E.bx (fun _ => ?_) | refine E.al (fun _ => ?_) | refine E.sb ?_ | refine E.dq ?_ | refine E.ct ?_ | refine E.cf ?_ | refine E.cs (fun hh => ?_) (fun hh => ?_) | refine E.at_block_other rfl ?_)
    refine rb ?_
    have hb : ∀ a ∈ labs, nlab ns a ≤ 5 ∧ elbC es a ≤ 7 := fun a ha => by
      have hm := mem_labs.1 ha
      have := ha2 a.toNat (by omega)
      rwa [Int.toNat_of_nonneg hm.1] at this
    exact (gok_iff.2 ⟨⟨hk2, hk3, fun a ha => (hb a ha).1⟩, hj2, hj3, fun a ha => (hb a ha).2⟩).symm
end E
end Go.Proofs.YtpiiapoafmnhhaaGreat
