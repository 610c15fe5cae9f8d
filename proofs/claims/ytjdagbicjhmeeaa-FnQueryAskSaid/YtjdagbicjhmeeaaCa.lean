/- Contracts of the program's and the reference's functions on labels, nodes, edges, and on what is done to a graph. -/
import Derived.Test.YtjdagbicjhmeeaaDa
namespace Go.Proofs.Ytjdagbicjhmeeaa
namespace E
open Go Go.RowKit
set_option linter.unusedSimpArgs false
set_option linter.unusedVariables false
set_option maxHeartbeats 1000000
set_option maxRecDepth 10000
attribute [local irreducible] HC HL HQ HX HO At Y YV Opd Opds KnX Sl Ld Src GV RV Calls Code.wp eptr adr RdF ownF OneX HG LdC
def lok (a : Int) : Bool := decide (0 ≤ a) && decide (a ≤ 7)
theorem lok_iff {a : Int} : lok a = true ↔ 0 ≤ a ∧ a ≤ 7 := by simp [lok]
theorem c_s_LabelOk {a : Int} (w : World) : Calls Try.prog 76 #[.int .i64 a] w (Ret (fun _ : Unit => .bool (lok a)) (fun _ => []) w) := by
  refine enter (args := _) Try.func76 rfl Try.ntmps76 (by simp) ?_
  repeat' (first | refine E.st ?_ | refine E.q ?_ | refine E.qs ?_ | refine E.q2 ?_ | refine E.tr ?_ | refine E.ap (fun _ _ => ?_) | refine E.b1 (fun _ _ => ?_) | refine E.b0 (fun _ _ => ?_) | refine E.bsn (fun _ _ => ?_) | refine E.mk (fun _ _ => ?_) | refine E.bx (fun _ => ?_) | refine E.al (fun _ => ?_) | refine E.sb ?_ | refine E.dq ?_ | refine E.ct ?_ | refine E.cf ?_ | refine E.cs (fun hh => ?_) (fun hh => ?_) | refine E.at_block_other rfl ?_)
  exact rb
theorem c_i_LabelOk {a : Int} (w : World) : Calls Try.prog 13 #[.int .i64 a] w (Ret (fun _ : Unit => .bool (lok a)) (fun _ => []) w) := by
  refine enter (args := _) Try.func13 rfl Try.ntmps13 (by simp) ?_
  repeat' (first | refine E.st ?_ | refine E.q ?_ | refine E.qs ?_ | refine E.q2 ?_ | refine E.tr ?_ | refine E.ap (fun _ _ => ?_) | refine E.b1 (fun _ _ => ?_) | refine E.b0 (fun _ _ => ?_) | refine E.bsn (fun _ _ => ?_) | refine E.mk (fun _ _ => ?_) | refine E.bx (fun _ => ?_) | refine E.al (fun _ => ?_) | refine E.sb ?_ | refine E.dq ?_ | refine E.ct ?_ | refine E.cf ?_ | refine E.cs (fun hh => ?_) (fun hh => ?_) | refine E.at_block_other rfl ?_)
  exact rb
def nok (x : Nd) : Bool := lok x.l && (decide (0 ≤ x.n) && decide (x.n ≤ 40))
theorem nok_iff {x : Nd} : nok x = true ↔ 0 ≤ x.l ∧ x.l ≤ 7 ∧ 0 ≤ x.n ∧ x.n ≤ 40 := by simp [nok, lok_iff, and_assoc]
theorem c_s_NodeOk {l n : Int} (w : World) : Calls Try.prog 62 #[.agg #[.int .i64 l, .int .i64 n]] w (Ret (fun _ : Unit => .bool (nok ⟨l, n⟩)) (fun _ => []) w) := by
  refine enter (args := _) Try.func62 rfl Try.ntmps62 (by simp) ?_
  repeat' (first | refine E.st ?_ | refine E.cl (h := fun _ w _ => c_s_LabelOk w) (k := ?_)  | refine E.q ?_ | refine E.qs ?_ | refine E.q2 ?_ | refine E.tr ?_ | refine E.ap (fun _ _ => ?_) | refine E.b1 (fun _ _ => ?_) | refine E.b0 (fun _ _ => ?_) | refine E.bsn (fun _ _ => ?_) | refine E.mk (fun _ _ => ?_) | refine E.bx (fun _ => ?_) | refine E.al (fun _ => ?_) | refine E.sb ?_ | refine E.dq ?_ | refine E.ct ?_ | refine E.cf ?_ | refine E.cs (fun hh => ?_) (fun hh => ?_) | refine E.at_block_other rfl ?_)
  refine rb ?_
  simp [nok, Bool.and_assoc]
theorem c_i_NodeOk {l n : Int} (w : World) : Calls Try.prog 38 #[.agg #[.int .i64 l, .int .i64 n]] w (Ret (fun _ : Unit => .bool (nok ⟨l, n⟩)) (fun _ => []) w) := by
  refine enter (args := _) Try.func38 rfl Try.ntmps38 (by simp) ?_
  repeat' (first | refine E.st ?_ | refine E.cl (h := fun _ w _ => c_i_LabelOk w) (k := ?_)  | refine E.q ?_ | refine E.qs ?_ | refine E.q2 ?_ | refine E.tr ?_ | refine E.ap (fun _ _ => ?_) | refine E.b1 (fun _ _ => ?_) | refine E.b0 (fun _ _ => ?_) | refine E.bsn (fun _ _ => ?_) | refine E.mk (fun _ _ => ?_) | refine E.bx (fun _ => ?_) | refine E.al (fun _ => ?_) | refine E.sb ?_ | refine E.dq ?_ | refine E.ct ?_ | refine E.cf ?_ | refine E.cs (fun hh => ?_) (fun hh => ?_) | refine E.at_block_other rfl ?_)
  refine rb ?_
  simp [nok, Bool.and_assoc]
theorem c_s_l1Two (n : Nat) (w : World) (hn : n ≤ 2 := by omega) : Calls Try.prog 130 #[.int .i64 (n : Int)] w (Ret (fun _ : Unit => .int .i64 ((2 ^ n : Nat) : Int)) (fun _ => []) w) := by
  refine enter (args := _) Try.func130 rfl Try.ntmps130 (by simp) ?_
  repeat' (first | refine E.st ?_ | refine E.q ?_ | refine E.qs ?_ | refine E.q2 ?_ | refine E.tr ?_ | refine E.ap (fun _ _ => ?_) | refine E.b1 (fun _ _ => ?_) | refine E.b0 (fun _ _ => ?_) | refine E.bsn (fun _ _ => ?_) | refine E.mk (fun _ _ => ?_) | refine E.bx (fun _ => ?_) | refine E.al (fun _ => ?_) | refine E.sb ?_ | refine E.dq ?_ | refine E.ct ?_ | refine E.cf ?_ | refine E.cs (fun hh => ?_) (fun hh => ?_) | refine E.at_block_other rfl ?_)
  refine lp (fun k : Nat => k ≤ n) (fun k => [(0, .pl (.int .i64 (n : Int))), (3, .pl (.int .i64 ((2 ^ k : Nat) : Int))), (4, .pl (.int .i64 (k : Int)))]) (fun _ => []) (fun k => n - k) 0 (Nat.zero_le _) (fun k hk => ?_)
  have hb : (2 ^ k : Nat) ≤ 4 := by
    have : k = 0 ∨ k = 1 ∨ k = 2 := by omega
    rcases this with rfl | rfl | rfl <;> decide
  generalize hp : 2 ^ k = p at hb ⊢
  repeat' (first | refine E.st ?_ | refine E.q ?_ | refine E.qs ?_ | refine E.q2 ?_ | refine E.tr ?_ | refine E.ap (fun _ _ => ?_) | refine E.b1 (fun _ _ => ?_) | refine E.b0 (fun _ _ => ?_) | refine E.bsn (fun _ _ => ?_) | refine E.mk (fun _ _ => ?_) | refine E.bx (fun _ => ?_) | refine E.al (fun _ => ?_) | refine E.sb ?_ | refine E.dq ?_ | refine E.ct ?_ | refine E.cf ?_ | refine E.cs (fun hh => ?_) (fun hh => ?_) | refine E.at_block_other rfl ?_)
  · have : (2 ^ (k + 1) : Nat) = p * 2 := by rw [Nat.pow_succ, hp]
    exact rd (k + 1) (by omega)
  · have : k = n := by omega
    subst this
    exact ri (by rw [hp])
def has (a i : Int) : Bool := decide ((IntKind.i64.wrap (a.tdiv ((2 ^ i.toNat : Nat) : Int))).tmod 2 = 1)
theorem c_s_l1Has {a i : Int} (w : World) (hi : 0 ≤ i ∧ i ≤ 2 := by omega) : Calls Try.prog 103 #[.int .i64 a, .int .i64 i] w (Ret (fun _ : Unit => .bool (has a i)) (fun _ => []) w) := by
  obtain ⟨n, rfl⟩ := Int.eq_ofNat_of_zero_le hi.1
  have hp : ((2 ^ n : Nat) : Int) ≠ 0 := by
    have : 0 < 2 ^ n := Nat.pow_pos (by decide)
    omega
  refine enter (args := _) Try.func103 rfl Try.ntmps103 (by simp) ?_
  repeat' (first | refine E.st ?_ | refine E.cl (h := fun _ w _ => c_s_l1Two n w) (k := ?_)  | refine E.q ?_ | refine E.qs ?_ | refine E.q2 ?_ | refine E.tr ?_ | refine E.ap (fun _ _ => ?_) | refine E.b1 (fun _ _ => ?_) | refine E.b0 (fun _ _ => ?_) | refine E.bsn (fun _ _ => ?_) | refine E.mk (fun _ _ => ?_) | refine E.bx (fun _ => ?_) | refine E.al (fun _ => ?_) | refine E.sb ?_ | refine E.dq ?_ | refine E.ct ?_ | refine E.cf ?_ | refine E.cs (fun hh => ?_) (fun hh => ?_) | refine E.at_block_other rfl ?_)
  refine rb ?_
  unfold has
  rw [Int.toNat_natCast]
def bad (a b j : Int) : Bool := has a j && !has b j
def und (a b : Int) : Bool := !(bad a b 0 || bad a b 1 || bad a b 2)
theorem und_false {a b : Int} (k : Nat) (hk : k < 3) (h : bad a b k = true) : und a b = false := by
  have : k = 0 ∨ k = 1 ∨ k = 2 := by omega
  rcases this with rfl | rfl | rfl <;> simp_all [und]
theorem und_true {a b : Int} (h : ∀ j : Nat, j < 3 → bad a b j = false) : und a b = true := by
  have h0 := h 0 (by omega)
  have h1 := h 1 (by omega)
  have h2 := h 2 (by omega)
  simp_all [und]
theorem c_s_l1Under {a b : Int} (w : World) : Calls Try.prog 77 #[.int .i64 a, .int .i64 b] w (Ret (fun _ : Unit => .bool (und a b)) (fun _ => []) w) := by
  refine enter (args := _) Try.func77 rfl Try.ntmps77 (by simp) ?_
  repeat' (first | refine E.st ?_ | refine E.q ?_ | refine E.qs ?_ | refine E.q2 ?_ | refine E.tr ?_ | refine E.ap (fun _ _ => ?_) | refine E.b1 (fun _ _ => ?_) | refine E.b0 (fun _ _ => ?_) | refine E.bsn (fun _ _ => ?_) | refine E.mk (fun _ _ => ?_) | refine E.bx (fun _ => ?_) | refine E.al (fun _ => ?_) | refine E.sb ?_ | refine E.dq ?_ | refine E.ct ?_ | refine E.cf ?_ | refine E.cs (fun hh => ?_) (fun hh => ?_) | refine E.at_block_other rfl ?_)
  refine lp (fun k : Nat => k ≤ 3 ∧ ∀ j : Nat, j < k → bad a b j = false) (fun k => [(0, .pl (.int .i64 a)), (1, .pl (.int .i64 b)), (5, .pl (.int .i64 (k : Int)))]) (fun _ => []) (fun k => 3 - k) 0 ⟨by omega, fun j hj => absurd hj (by omega)⟩ (fun k hk => ?_)
  obtain ⟨hk3, hall⟩ := hk
  rcases Nat.lt_or_ge k 3 with hlt | hge
  · repeat' (first | refine E.st ?_ | refine E.cl (h := fun _ w _ => c_s_l1Has w) (k := ?_)  | refine E.q ?_ | refine E.qs ?_ | refine E.q2 ?_ | refine E.tr ?_ | refine E.ap (fun _ _ => ?_) | refine E.b1 (fun _ _ => ?_) | refine E.b0 (fun _ _ => ?_) | refine E.bsn (fun _ _ => ?_) | refine E.mk (fun _ _ => ?_) | refine E.bx (fun _ => ?_) | refine E.al (fun _ => ?_) | refine E.sb ?_ | refine E.dq ?_ | refine E.ct ?_ | refine E.cf ?_ | refine E.cs (fun hh => ?_) (fun hh => ?_) | refine E.at_block_other rfl ?_)
    · exact rb (und_false k hlt (by simp [bad, hh.1, hh.2])).symm
    · refine rd (k + 1) ⟨by omega, fun j hj => ?_⟩
      rcases Nat.lt_or_ge j k with h | h
      · exact hall j h
      · have : j = k := by omega
        subst this
        rcases hh with hh | hh <;> simp [bad, hh]
  · repeat' (first | refine E.st ?_ | refine E.q ?_ | refine E.qs ?_ | refine E.q2 ?_ | refine E.tr ?_ | refine E.ap (fun _ _ => ?_) | refine E.b1 (fun _ _ => ?_) | refine E.b0 (fun _ _ => ?_) | refine E.bsn (fun _ _ => ?_) | refine E.mk (fun _ _ => ?_) | refine E.bx (fun _ => ?_) | refine E.al (fun _ => ?_) | refine E.sb ?_ | refine E.dq ?_ | refine E.ct ?_ | refine E.cf ?_ | refine E.cs (fun hh => ?_) (fun hh => ?_) | refine E.at_block_other rfl ?_)
    have : k = 3 := by omega
    subst this
    exact rb (und_true hall).symm
def lun (a b : Int) : Bool := lok a && lok b && und a b
theorem c_s_LabelUnder {a b : Int} (w : World) : Calls Try.prog 35 #[.int .i64 a, .int .i64 b] w (Ret (fun _ : Unit => .bool (lun a b)) (fun _ => []) w) := by
  refine enter (args := _) Try.func35 rfl Try.ntmps35 (by simp) ?_
  repeat' (first | refine E.st ?_ | refine E.cl (h := fun _ w _ => c_s_LabelOk w) (k := ?_) | refine E.cl (h := fun _ w _ => c_s_l1Under w) (k := ?_)  | refine E.q ?_ | refine E.qs ?_ | refine E.q2 ?_ | refine E.tr ?_ | refine E.ap (fun _ _ => ?_) | refine E.b1 (fun _ _ => ?_) | refine E.b0 (fun _ _ => ?_) | refine E.bsn (fun _ _ => ?_) | refine E.mk (fun _ _ => ?_) | refine E.bx (fun _ => ?_) | refine E.al (fun _ => ?_) | refine E.sb ?_ | refine E.dq ?_ | refine E.ct ?_ | refine E.cf ?_ | refine E.cs (fun hh => ?_) (fun hh => ?_) | refine E.at_block_other rfl ?_)
  exact rb
/-- The letters of labels, as bits. -/
theorem bits_under (a b : Int) (ha : lok a = true) (hb : lok b = true) : ∃ v : Int, (∀ w, (Op.intBits .andNot .u8 (IntKind.u8.wrap a) (IntKind.u8.wrap b)).run Try.prog w = .ok (.int .u8 v) w) ∧ decide (v = 0) = und a b := by
  have ha' : a = 0 ∨ a = 1 ∨ a = 2 ∨ a = 3 ∨ a = 4 ∨ a = 5 ∨ a = 6 ∨ a = 7 := by simp [lok] at ha; omega
  have hb' : b = 0 ∨ b = 1 ∨ b = 2 ∨ b = 3 ∨ b = 4 ∨ b = 5 ∨ b = 6 ∨ b = 7 := by simp [lok] at hb; omega
  rcases ha' with rfl | rfl | rfl | rfl | rfl | rfl | rfl | rfl <;> rcases hb' with rfl | rfl | rfl | rfl | rfl | rfl | rfl | rfl <;> exact ⟨_, fun _ => rfl, by decide +kernel⟩
theorem c_i_under {a b : Int} (w : World) (ha : lok a = true) (hb : lok b = true) : Calls Try.prog 37 #[.int .u8 (IntKind.u8.wrap a), .int .u8 (IntKind.u8.wrap b)] w (Ret (fun _ : Unit => .bool (und a b)) (fun _ => []) w) := by
  obtain ⟨v, hbv, he⟩ := bits_under a b ha hb
  refine enter (args := _) Try.func37 rfl Try.ntmps37 (by simp) ?_
  repeat' (first | refine E.st ?_ | refine E.qy (hy := y_bits (Or.inr (Or.inr (Or.inr rfl))) (Opd.pl rfl) (Opd.pl rfl) hbv) (hr := ?_) | refine E.q ?_ | refine E.qs ?_ | refine E.q2 ?_ | refine E.tr ?_ | refine E.ap (fun _ _ => ?_) | refine E.b1 (fun _ _ => ?_) | refine E.b0 (fun _ _ => ?_) | refine E.bsn (fun _ _ => ?_) | refine E.mk (fun _ _ => ?_) | refine E.bx (fun _ => ?_) | refine E.al (fun _ => ?_) | refine E.sb ?_ | refine E.dq ?_ | refine E.ct ?_ | refine E.cf ?_ | refine E.cs (fun hh => ?_) (fun hh => ?_) | refine E.at_block_other rfl ?_)
  exact rb he
theorem c_i_LabelUnder {a b : Int} (w : World) : Calls Try.prog 10 #[.int .i64 a, .int .i64 b] w (Ret (fun _ : Unit => .bool (lun a b)) (fun _ => []) w) := by
  refine enter (args := _) Try.func10 rfl Try.ntmps10 (by simp) ?_
  repeat' (first | refine E.st ?_ | refine E.cl (h := fun _ w _ => c_i_LabelOk w) (k := ?_) | refine cl (h := fun hc w _ => c_i_under w (Bool.and_eq_true_iff.1 hc).1 (Bool.and_eq_true_iff.1 hc).2) (k := ?_) | refine E.q ?_ | refine E.qs ?_ | refine E.q2 ?_ | refine E.tr ?_ | refine E.ap (fun _ _ => ?_) | refine E.b1 (fun _ _ => ?_) | refine E.b0 (fun _ _ => ?_) | refine E.bsn (fun _ _ => ?_) | refine E.mk (fun _ _ => ?_) | refine E.bx (fun _ => ?_) | refine E.al (fun _ => ?_) | refine E.sb ?_ | refine E.dq ?_ | refine E.ct ?_ | refine E.cf ?_ | refine E.cs (fun hh => ?_) (fun hh => ?_) | refine E.at_block_other rfl ?_)
  exact rb

def cd (x : Nd) : Int := IntKind.i64.wrap (IntKind.i64.wrap (x.l * 64) + x.n)
def code (x : Nd) : Int := if nok x = true then 64 * x.l + x.n else -1
theorem cd_ok {x : Nd} (h : nok x = true) : cd x = 64 * x.l + x.n := by
  have := nok_iff.1 h
  unfold cd
  rw [wrap_i64_of (z := x.l * 64) (by omega), wrap_i64_of (by omega)]
  omega
theorem code_cd {x : Nd} (h : nok x = true) : code x = cd x := by rw [cd_ok h, code, if_pos h]
theorem c_s_l2Code {l n : Int} (w : World) : Calls Try.prog 63 #[.agg #[.int .i64 l, .int .i64 n]] w (Ret (fun _ : Unit => .int .i64 (cd ⟨l, n⟩)) (fun _ => []) w) := by
  refine enter (args := _) Try.func63 rfl Try.ntmps63 (by simp) ?_
  repeat' (first | refine E.st ?_ | refine E.q ?_ | refine E.qs ?_ | refine E.q2 ?_ | refine E.tr ?_ | refine E.ap (fun _ _ => ?_) | refine E.b1 (fun _ _ => ?_) | refine E.b0 (fun _ _ => ?_) | refine E.bsn (fun _ _ => ?_) | refine E.mk (fun _ _ => ?_) | refine E.bx (fun _ => ?_) | refine E.al (fun _ => ?_) | refine E.sb ?_ | refine E.dq ?_ | refine E.ct ?_ | refine E.cf ?_ | refine E.cs (fun hh => ?_) (fun hh => ?_) | refine E.at_block_other rfl ?_)
  exact ri
theorem c_i_NodeCode {l n : Int} (w : World) : Calls Try.prog 51 #[.agg #[.int .i64 l, .int .i64 n]] w (Ret (fun _ : Unit => .int .i64 (code ⟨l, n⟩)) (fun _ => []) w) := by
  refine enter (args := _) Try.func51 rfl Try.ntmps51 (by simp) ?_
  repeat' (first | refine E.st ?_ | refine E.cl (h := fun _ w _ => c_i_NodeOk w) (k := ?_)  | refine E.q ?_ | refine E.qs ?_ | refine E.q2 ?_ | refine E.tr ?_ | refine E.ap (fun _ _ => ?_) | refine E.b1 (fun _ _ => ?_) | refine E.b0 (fun _ _ => ?_) | refine E.bsn (fun _ _ => ?_) | refine E.mk (fun _ _ => ?_) | refine E.bx (fun _ => ?_) | refine E.al (fun _ => ?_) | refine E.sb ?_ | refine E.dq ?_ | refine E.ct ?_ | refine E.cf ?_ | refine E.cs (fun hh => ?_) (fun hh => ?_) | refine E.at_block_other rfl ?_)
  · refine ri ?_
    simp [code, *]
  · have hb := nok_iff.1 (by assumption)
    refine ri ?_
    simp only [code, *, if_true]
    simp only [] at hb
    rw [wrap_i64_of (z := 64 * l) (by omega), wrap_i64_of (by omega)]
def eok (x : Eg) : Bool := lok x.l && nok x.a && nok x.b && decide (cd x.a < cd x.b) && und x.a.l x.l && und x.b.l x.l
theorem c_s_EdgeOk {l al an bl bn : Int} (w : World) : Calls Try.prog 64 #[.agg #[.int .i64 l, .int .i64 al, .int .i64 an, .int .i64 bl, .int .i64 bn]] w (Ret (fun _ : Unit => .bool (eok ⟨l, ⟨al, an⟩, ⟨bl, bn⟩⟩)) (fun _ => []) w) := by
  refine enter (args := _) Try.func64 rfl Try.ntmps64 (by simp) ?_
  repeat' (first | refine E.st ?_ | refine E.cl (h := fun _ w _ => c_s_LabelOk w) (k := ?_) | refine E.cl (h := fun _ w _ => c_s_NodeOk w) (k := ?_) | refine E.cl (h := fun _ w _ => c_s_l2Code w) (k := ?_) | refine E.cl (h := fun _ w _ => c_s_l1Under w) (k := ?_)  | refine E.q ?_ | refine E.qs ?_ | refine E.q2 ?_ | refine E.tr ?_ | refine E.ap (fun _ _ => ?_) | refine E.b1 (fun _ _ => ?_) | refine E.b0 (fun _ _ => ?_) | refine E.bsn (fun _ _ => ?_) | refine E.mk (fun _ _ => ?_) | refine E.bx (fun _ => ?_) | refine E.al (fun _ => ?_) | refine E.sb ?_ | refine E.dq ?_ | refine E.ct ?_ | refine E.cf ?_ | refine E.cs (fun hh => ?_) (fun hh => ?_) | refine E.at_block_other rfl ?_)
  exact rb
theorem c_i_EdgeOk {l al an bl bn : Int} (w : World) : Calls Try.prog 39 #[.agg #[.int .i64 l, .int .i64 al, .int .i64 an, .int .i64 bl, .int .i64 bn]] w (Ret (fun _ : Unit => .bool (eok ⟨l, ⟨al, an⟩, ⟨bl, bn⟩⟩)) (fun _ => []) w) := by
  refine enter (args := _) Try.func39 rfl Try.ntmps39 (by simp) ?_
  repeat' (first | refine E.st ?_ | refine E.cl (h := fun _ w _ => c_i_LabelOk w) (k := ?_) | refine E.cl (h := fun _ w _ => c_i_NodeOk w) (k := ?_) | refine E.cl (h := fun _ w _ => c_i_NodeCode w) (k := ?_) | refine E.cl (h := fun _ w _ => c_i_LabelUnder w) (k := ?_)  | refine E.q ?_ | refine E.qs ?_ | refine E.q2 ?_ | refine E.tr ?_ | refine E.ap (fun _ _ => ?_) | refine E.b1 (fun _ _ => ?_) | refine E.b0 (fun _ _ => ?_) | refine E.bsn (fun _ _ => ?_) | refine E.mk (fun _ _ => ?_) | refine E.bx (fun _ => ?_) | refine E.al (fun _ => ?_) | refine E.sb ?_ | refine E.dq ?_ | refine E.ct ?_ | refine E.cf ?_ | refine E.cs (fun hh => ?_) (fun hh => ?_) | refine E.at_block_other rfl ?_)
  refine rb ?_
  unfold eok
  simp only []
  by_cases h1 : lok l = true
  · by_cases h2 : nok ⟨al, an⟩ = true
    · by_cases h3 : nok ⟨bl, bn⟩ = true
      · have h4 := cd_ok h2
        have h5 := cd_ok h3
        have h6 : lok al = true := by have := nok_iff.1 h2; exact lok_iff.2 ⟨this.1, this.2.1⟩
        have h7 : lok bl = true := by have := nok_iff.1 h3; exact lok_iff.2 ⟨this.1, this.2.1⟩
        simp [h1, h2, h3, code, h4, h5, lun, h6, h7]
      · simp [h3]
    · simp [h2]
  · simp [h1]
def olab (x : Opn) : Int :=
  if x.k = 1 ∨ x.k = 4 then (if (nok x.n && decide ([x.e.l, x.e.a.l, x.e.a.n, x.e.b.l, x.e.b.n] = [0, 0, 0, 0, 0])) = true then x.n.l else -1)
  else if x.k = 2 ∨ x.k = 3 then (if (eok x.e && decide ([x.n.l, x.n.n] = [0, 0])) = true then x.e.l else -1) else -1
theorem c_s_OpLabel {k nl nn el al an bl bn : Int} (w : World) : Calls Try.prog 36 #[.agg #[.int .i64 k, .int .i64 nl, .int .i64 nn, .int .i64 el, .int .i64 al, .int .i64 an, .int .i64 bl, .int .i64 bn]] w (Ret (fun _ : Unit => .int .i64 (olab ⟨k, ⟨nl, nn⟩, ⟨el, ⟨al, an⟩, ⟨bl, bn⟩⟩⟩)) (fun _ => []) w) := by
  refine enter (args := _) Try.func36 rfl Try.ntmps36 (by simp) ?_
  repeat' (first | refine E.st ?_ | refine E.cl (h := fun _ w _ => c_s_NodeOk w) (k := ?_) | refine E.cl (h := fun _ w _ => c_s_EdgeOk w) (k := ?_)  | refine E.q ?_ | refine E.qs ?_ | refine E.q2 ?_ | refine E.tr ?_ | refine E.ap (fun _ _ => ?_) | refine E.b1 (fun _ _ => ?_) | refine E.b0 (fun _ _ => ?_) | refine E.bsn (fun _ _ => ?_) | refine E.mk (fun _ _ => ?_) | refine E.bx (fun _ => ?_) | refine E.al (fun _ => ?_) | refine E.sb ?_ | refine E.dq ?_ | refine E.ct ?_ | refine E.cf ?_ | refine E.cs (fun hh => ?_) (fun hh => ?_) | refine E.at_block_other rfl ?_)
  all_goals (refine ri ?_; simp only [olab]; grind)
theorem c_i_OpLabel {k nl nn el al an bl bn : Int} (w : World) : Calls Try.prog 11 #[.agg #[.int .i64 k, .int .i64 nl, .int .i64 nn, .int .i64 el, .int .i64 al, .int .i64 an, .int .i64 bl, .int .i64 bn]] w (Ret (fun _ : Unit => .int .i64 (olab ⟨k, ⟨nl, nn⟩, ⟨el, ⟨al, an⟩, ⟨bl, bn⟩⟩⟩)) (fun _ => []) w) := by
  refine enter (args := _) Try.func11 rfl Try.ntmps11 (by simp) ?_
  repeat' (first | refine E.st ?_ | refine E.cl (h := fun _ w _ => c_i_NodeOk w) (k := ?_) | refine E.cl (h := fun _ w _ => c_i_EdgeOk w) (k := ?_)  | refine E.q ?_ | refine E.qs ?_ | refine E.q2 ?_ | refine E.tr ?_ | refine E.ap (fun _ _ => ?_) | refine E.b1 (fun _ _ => ?_) | refine E.b0 (fun _ _ => ?_) | refine E.bsn (fun _ _ => ?_) | refine E.mk (fun _ _ => ?_) | refine E.bx (fun _ => ?_) | refine E.al (fun _ => ?_) | refine E.sb ?_ | refine E.dq ?_ | refine E.ct ?_ | refine E.cf ?_ | refine E.cs (fun hh => ?_) (fun hh => ?_) | refine E.at_block_other rfl ?_)
  all_goals (refine ri ?_; simp only [olab]; grind)
end E
end Go.Proofs.Ytjdagbicjhmeeaa
