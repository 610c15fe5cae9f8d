/- Contracts of the program's and the reference's functions on labels, nodes, edges, and on what is done to a graph. -/
import Derived.Test.YtlepiheoiinpnaaDoorDa
namespace Go.Proofs.YtlepiheoiinpnaaDoor
namespace E
open Go Go.RowKit
set_option linter.unusedSimpArgs false
set_option linter.unusedVariables false
set_option maxHeartbeats 1000000
set_option maxRecDepth 10000
attribute [local irreducible] HC HL HQ HX HO At Y YV Opd Opds KnX Sl Ld Src GV RV Calls Code.wp eptr adr RdF ownF OneX HG LdC
def lok (a : Int) : Bool := decide (0 ≤ a) && decide (a ≤ 7)
theorem lok_iff {a : Int} : lok a = true ↔ 0 ≤ a ∧ a ≤ 7 := by simp [lok]
theorem c_s_LabelOk {a : Int} (w : World) : Calls Tryd.prog 32 #[.int .i64 a] w (Ret (fun _ : Unit => .bool (lok a)) (fun _ => []) w) := by
  refine enter (args := _) Tryd.func32 rfl Tryd.ntmps32 (by simp) ?_
  repeat' (first | refine E.st ?_ | refine E.q ?_ | refine E.qs ?_ | refine E.q2 ?_ | refine E.tr ?_ | refine E.ap (fun _ _ => ?_) | refine E.b1 (fun _ _ => ?_) | refine E.b0 (fun _ _ => ?_) | refine E.bsn (fun _ _ => ?_) | refine E.mk (fun _ _ => ?_) | refine E.bx (fun _ => ?_) | refine E.al (fun _ => ?_) | refine E.sb ?_ | refine E.dq ?_ | refine E.ct ?_ | refine E.cf ?_ | refine E.cs (fun hh => ?_) (fun hh => ?_) | refine E.at_block_other rfl ?_)
  exact rb
theorem c_i_LabelOk {a : Int} (w : World) : Calls Tryd.prog 31 #[.int .i64 a] w (Ret (fun _ : Unit => .bool (lok a)) (fun _ => []) w) := by
  refine enter (args := _) Tryd.func31 rfl Tryd.ntmps31 (by simp) ?_
  repeat' (first | refine E.st ?_ | refine E.q ?_ | refine E.qs ?_ | refine E.q2 ?_ | refine E.tr ?_ | refine E.ap (fun _ _ => ?_) | refine E.b1 (fun _ _ => ?_) | refine E.b0 (fun _ _ => ?_) | refine E.bsn (fun _ _ => ?_) | refine E.mk (fun _ _ => ?_) | refine E.bx (fun _ => ?_) | refine E.al (fun _ => ?_) | refine E.sb ?_ | refine E.dq ?_ | refine E.ct ?_ | refine E.cf ?_ | refine E.cs (fun hh => ?_) (fun hh => ?_) | refine E.at_block_other rfl ?_)
  exact rb
def nok (x : Nd) : Bool := lok x.l && (decide (0 ≤ x.n) && decide (x.n ≤ 40))
theorem nok_iff {x : Nd} : nok x = true ↔ 0 ≤ x.l ∧ x.l ≤ 7 ∧ 0 ≤ x.n ∧ x.n ≤ 40 := by simp [nok, lok_iff, and_assoc]
theorem c_s_NodeOk {l n : Int} (w : World) : Calls Tryd.prog 15 #[.agg #[.int .i64 l, .int .i64 n]] w (Ret (fun _ : Unit => .bool (nok ⟨l, n⟩)) (fun _ => []) w) := by
  refine enter (args := _) Tryd.func15 rfl Tryd.ntmps15 (by simp) ?_
  repeat' (first | refine E.st ?_ | refine E.cl (h := fun _ w _ => c_s_LabelOk w) (k := ?_)  | refine E.q ?_ | refine E.qs ?_ | refine E.q2 ?_ | refine E.tr ?_ | refine E.ap (fun _ _ => ?_) | refine E.b1 (fun _ _ => ?_) | refine E.b0 (fun _ _ => ?_) | refine E.bsn (fun _ _ => ?_) | refine E.mk (fun _ _ => ?_) | refine E.bx (fun _ => ?_) | refine E.al (fun _ => ?_) | refine E.sb ?_ | refine E.dq ?_ | refine E.ct ?_ | refine E.cf ?_ | refine E.cs (fun hh => ?_) (fun hh => ?_) | refine E.at_block_other rfl ?_)
  refine rb ?_
  simp [nok, Bool.and_assoc]
theorem c_i_NodeOk {l n : Int} (w : World) : Calls Tryd.prog 14 #[.agg #[.int .i64 l, .int .i64 n]] w (Ret (fun _ : Unit => .bool (nok ⟨l, n⟩)) (fun _ => []) w) := by
  refine enter (args := _) Tryd.func14 rfl Tryd.ntmps14 (by simp) ?_
  repeat' (first | refine E.st ?_ | refine E.cl (h := fun _ w _ => c_i_LabelOk w) (k := ?_)  | refine E.q ?_ | refine E.qs ?_ | refine E.q2 ?_ | refine E.tr ?_ | refine E.ap (fun _ _ => ?_) | refine E.b1 (fun _ _ => ?_) | refine E.b0 (fun _ _ => ?_) | refine E.bsn (fun _ _ => ?_) | refine E.mk (fun _ _ => ?_) | refine E.bx (fun _ => ?_) | refine E.al (fun _ => ?_) | refine E.sb ?_ | refine E.dq ?_ | refine E.ct ?_ | refine E.cf ?_ | refine E.cs (fun hh => ?_) (fun hh => ?_) | refine E.at_block_other rfl ?_)
  refine rb ?_
  simp [nok, Bool.and_assoc]
theorem c_s_l1Two (n : Nat) (w : World) (hn : n ≤ 2 := by omega) : Calls Tryd.prog 40 #[.int .i64 (n : Int)] w (Ret (fun _ : Unit => .int .i64 ((2 ^ n : Nat) : Int)) (fun _ => []) w) := by
  refine enter (args := _) Tryd.func40 rfl Tryd.ntmps40 (by simp) ?_
  repeat' (first | refine E.st ?_ | refine E.q ?_ | refine E.qs ?_ | refine E.q2 ?_ | refine E.tr ?_ | refine E.ap (fun _ _ => ?_) | refine E.b1 (fun _ _ => ?_) | refine E.b0 (fun _ _ => ?_) | refine E.bsn (fun _ _ => ?_) | refine E.mk (fun _ _ => ?_) | refine E.bx (fun _ => ?_) | refine E.al (fun _ => ?_) | refine E.sb ?_ | refine E.dq ?_ | refine E.ct ?_ | refine E.cf ?_ | refine E.cs (fun hh => ?_) (fun hh => ?_) | refine E.at_block_other rfl ?_)
  refine lp (fun k : Nat => k ≤ n) (fun k => [(0, .pl (.int .i64 (n : Int))), (3, .pl (.int .i64 ((2 ^ k : Nat) : Int))), (4, .pl (.int .i64 (k : Int)))]) (fun _ => []) (fun k => n - k) 0 (Nat.zero_le _) (fun k hk => ?_)
  have hb : (2 ^ k : Nat) ≤ 4 := by
    have : k = 0 ∨ k = 1 ∨ k = 2 := by omega
    rcases this with rfl | rfl | rfl <;> decide
  generalize hp : 2 ^ k = p at hb ⊢
  repeat' (first | refine E.st ?_ | refine E.q ?_ | refine E.qs ?_ | refine E.q2 ?_ | refine E.tr ?_ | refine E.ap (fun _ _ => ?_) | refine E.b1 (fun _ _ => ?_) | refine E.b0 (fun _ _ => ?_) | refine E.bsn (fun _ _ => ?_) | refine E.mk (fun _ _ => ?_) | refine E.bx (fun _ => ?_) | refine E.al (fun _ => ?_) | refine E.sb ?_ | refine E.dq ?_ | refine E.ct ?_ | refine E.cf ?_ | refine E.cs (fun hh => ?_) (fun hh => ?_) | refine E.at_block_other rfl ?_)
  · have : (2 ^ (k + 1) : Nat) = p * 2 := by rw [Nat.pow_succ, hp]
    exact rd (k + 1) (by omega)
  · have : k = n := by omega
    subst this
    exact ri (by rw [hp])
def has (a i : Int) : Bool := decide ((IntKind.i64.wrap (a.tdiv ((2 ^ i.toNat : Nat) : Int))).tmod 2 = 1)
theorem c_s_l1Has {a i : Int} (w : World) (hi : 0 ≤ i ∧ i ≤ 2 := by omega) : Calls Tryd.prog 33 #[.int .i64 a, .int .i64 i] w (Ret (fun _ : Unit => .bool (has a i)) (fun _ => []) w) := by
  obtain ⟨n, rfl⟩ := Int.eq_ofNat_of_zero_le hi.1
  have hp : ((2 ^ n : Nat) : Int) ≠ 0 := by
    have : 0 < 2 ^ n := Nat.pow_pos (by decide)
    omega
  refine enter (args := _) Tryd.func33 rfl Tryd.ntmps33 (by simp) ?_
  repeat' (first | refine E.st ?_ | refine E.cl (h := fun _ w _ => c_s_l1Two n w) (k := ?_)  | refine E.q ?_ | refine E.qs ?_ | refine E.q2 ?_ | refine E.tr ?_ | refine E.ap (fun _ _ => ?_) | refine E.b1 (fun _ _ => ?_) | refine E.b0 (fun _ _ => ?_) | refine E.bsn (fun _ _ => ?_) | refine E.mk (fun _ _ => ?_) | refine E.bx (fun _ => ?_) | refine E.al (fun _ => ?_) | refine E.sb ?_ | refine E.dq ?_ | refine E.ct ?_ | refine E.cf ?_ | refine E.cs (fun hh => ?_) (fun hh => ?_) | refine E.at_block_other rfl ?_)
  refine rb ?_
  unfold has
  rw [Int.toNat_natCast]
def bad (a b j : Int) : Bool := has a j && !has b j
def und (a b : Int) : Bool := !(bad a b 0 || bad a b 1 || bad a b 2)
theorem und_false {a b : Int} (k : Nat) (hk : k < 3) (h : bad a b k = true) : und a b = false := by
  have : k = 0 ∨ k = 1 ∨ k = 2 := by omega
  rcases this with rfl | rfl | rfl <;> simp_all [und]
theorem und_true {a b : Int} (h : ∀ j : Nat, j < 3 → bad a b j = false) : und a b = true := by
  have h0 := h 0 (by omega)
  have h1 := h 1 (by omega)
  have h2 := h 2 (by omega)
  simp_all [und]
def lun (a b : Int) : Bool := lok a && lok b && und a b
/-- The letters of labels, as bits. -/
theorem bits_under (a b : Int) (ha : lok a = true) (hb : lok b = true) : ∃ v : Int, (∀ w, (Op.intBits .andNot .u8 (IntKind.u8.wrap a) (IntKind.u8.wrap b)).run Tryd.prog w = .ok (.int .u8 v) w) ∧ decide (v = 0) = und a b := by
  have ha' : a = 0 ∨ a = 1 ∨ a = 2 ∨ a = 3 ∨ a = 4 ∨ a = 5 ∨ a = 6 ∨ a = 7 := by simp [lok] at ha; omega
  have hb' : b = 0 ∨ b = 1 ∨ b = 2 ∨ b = 3 ∨ b = 4 ∨ b = 5 ∨ b = 6 ∨ b = 7 := by simp [lok] at hb; omega
  rcases ha' with rfl | rfl | rfl | rfl | rfl | rfl | rfl | rfl <;> rcases hb' with rfl | rfl | rfl | rfl | rfl | rfl | rfl | rfl <;> exact ⟨_, fun _ => rfl, by decide +kernel⟩
def cd (x : Nd) : Int := IntKind.i64.wrap (IntKind.i64.wrap (x.l * 64) + x.n)
def code (x : Nd) : Int := if nok x = true then 64 * x.l + x.n else -1
theorem cd_ok {x : Nd} (h : nok x = true) : cd x = 64 * x.l + x.n := by
  have := nok_iff.1 h
  unfold cd
  rw [wrap_i64_of (z := x.l * 64) (by omega), wrap_i64_of (by omega)]
  omega
theorem code_cd {x : Nd} (h : nok x = true) : code x = cd x := by rw [cd_ok h, code, if_pos h]
def eok (x : Eg) : Bool := lok x.l && nok x.a && nok x.b && decide (cd x.a < cd x.b) && und x.a.l x.l && und x.b.l x.l
def olab (x : Opn) : Int :=
  if x.k = 1 ∨ x.k = 4 then (if (nok x.n && decide ([x.e.l, x.e.a.l, x.e.a.n, x.e.b.l, x.e.b.n] = [0, 0, 0, 0, 0])) = true then x.n.l else -1)
  else if x.k = 2 ∨ x.k = 3 then (if (eok x.e && decide ([x.n.l, x.n.n] = [0, 0])) = true then x.e.l else -1) else -1
end E
end Go.Proofs.YtlepiheoiinpnaaDoor
