/- The draws: one of a list, labels, nodes, edges. -/
import Derived.Test.YtjdagbicjhmeeaaKa
namespace Go.Proofs.Ytjdagbicjhmeeaa
namespace E
open Go Go.RowKit
set_option linter.unusedSimpArgs false
set_option linter.unusedVariables false
set_option maxHeartbeats 1000000
set_option maxRecDepth 10000
attribute [local irreducible] HC HL HQ HX HO At Y YV Opd Opds KnX Sl Ld Src GV RV Calls Code.wp eptr adr RdF ownF OneX HG LdC
theorem c_num {g : Nat} {bv v : Value} {bs : List UInt8} {xs : List Int} {p : Nat} {w0 : World} {K : List Ck} (w : World) (hw : KOk w0 (.box g 121 [bv, .int .i64 ((p : Nat) : Int)] :: K) w) (hb : RdIn w0 K bv bs := by exact rdI) (hr : RdIn w0 K v xs := by exact rdI) (h0 : 0 < xs.length := by decide) (hp : p ≤ 1000000000 := by omega) :
    Calls Try.prog 92 #[.pointer (some ⟨g, 0, none⟩), v] w (RetK (fun z : {k : Int // k ∈ xs} => .int .i64 z.1) (fun _ => .box g 121 [bv, .int .i64 ((p + 1 : Nat) : Int)] :: K) w0) := by
  have hm := (hr w hw.drop).le
  simp only [maxLen] at hm
  refine enterK (args := _) hw Try.func92 rfl Try.ntmps92 (by simp) ?_
  repeat' (first | refine E.st ?_ | refine E.ckq (h := fun w hw => c_pick w hw) (k := fun z => E.wx (get_lt (xs := xs) (k := z.1) (by have := z.2.1; omega)) (fun x hx => ?_)) | refine E.q3 ?_ | refine E.q ?_ | refine E.qs ?_ | refine E.q2 ?_ | refine E.q4 ?_ | refine E.tr ?_ | refine E.ap (fun _ _ => ?_) | refine E.b1 (fun _ _ => ?_) | refine E.b0 (fun _ _ => ?_) | refine E.bsn (fun _ _ => ?_) | refine E.mk (fun _ _ => ?_) | refine E.bxO (fun _ => ?_) | refine E.al (fun _ => ?_) | refine E.sbO ?_ | refine E.dq ?_ | refine E.ct ?_ | refine E.cf ?_ | refine E.cs (fun hh => ?_) (fun hh => ?_) | refine E.at_block_other rfl ?_)
  exact r1K ⟨_, List.mem_of_getElem? (by assumption)⟩
theorem c_l1Label {g : Nat} {bv : Value} {bs : List UInt8} {p : Nat} {w0 : World} {K : List Ck} (w : World) (hw : KOk w0 (.box g 121 [bv, .int .i64 ((p : Nat) : Int)] :: K) w) (hb : RdIn w0 K bv bs := by exact rdI) (hp : p ≤ 999999990 := by omega) :
    Calls Try.prog 75 #[.pointer (some ⟨g, 0, none⟩)] w (RetK (fun z : Int => .int .i64 z) (fun _ => .box g 121 [bv, .int .i64 ((p + 2 : Nat) : Int)] :: K) w0) := by
  refine enterK (args := _) hw Try.func75 rfl Try.ntmps75 (by simp) ?_
  repeat' (first | refine E.st ?_ | refine E.ckq (h := fun w hw => c_pick w hw) (k := fun z => ?_) | refine E.ckq (h := fun w hw => c_num w hw (xs := [-1, 8, 9223372036854775807, -9223372036854775808])) (k := fun z => ?_) | refine E.q3 ?_ | refine E.q ?_ | refine E.qs ?_ | refine E.q2 ?_ | refine E.q4 ?_ | refine E.tr ?_ | refine E.ap (fun _ _ => ?_) | refine E.b1 (fun _ _ => ?_) | refine E.b0 (fun _ _ => ?_) | refine E.bsn (fun _ _ => ?_) | refine E.mk (fun _ _ => ?_) | refine E.bxO (fun _ => ?_) | refine E.al (fun _ => ?_) | refine E.sbO ?_ | refine E.dq ?_ | refine E.ct ?_ | refine E.cf ?_ | refine E.cs (fun hh => ?_) (fun hh => ?_) | refine E.at_block_other rfl ?_)
  · exact r1K _
  · exact r1K _
theorem c_l2Node {g : Nat} {bv : Value} {bs : List UInt8} {p : Nat} {w0 : World} {K : List Ck} (w : World) (hw : KOk w0 (.box g 121 [bv, .int .i64 ((p : Nat) : Int)] :: K) w) (hb : RdIn w0 K bv bs := by exact rdI) (hp : p ≤ 999999990 := by omega) :
    Calls Try.prog 95 #[.pointer (some ⟨g, 0, none⟩)] w (RetK (fun z : { x : Nd // nok x = true } => .agg #[.int .i64 z.1.l, .int .i64 z.1.n]) (fun _ => .box g 121 [bv, .int .i64 ((p + 2 : Nat) : Int)] :: K) w0) := by
  refine enterK (args := _) hw Try.func95 rfl Try.ntmps95 (by simp) ?_
  repeat' (first | refine E.st ?_ | refine E.ckq (h := fun w hw => c_num w hw (xs := [0, 1, 2, 3, 0, 1, 4, 7])) (k := fun z1 => ?_) | refine E.ckq (h := fun w hw => c_num w hw (xs := [0, 1, 2, 3, 40])) (k := fun z2 => ?_) | refine E.q3 ?_ | refine E.q ?_ | refine E.qs ?_ | refine E.q2 ?_ | refine E.q4 ?_ | refine E.tr ?_ | refine E.ap (fun _ _ => ?_) | refine E.b1 (fun _ _ => ?_) | refine E.b0 (fun _ _ => ?_) | refine E.bsn (fun _ _ => ?_) | refine E.mk (fun _ _ => ?_) | refine E.bxO (fun _ => ?_) | refine E.al (fun _ => ?_) | refine E.sbO ?_ | refine E.dq ?_ | refine E.ct ?_ | refine E.cf ?_ | refine E.cs (fun hh => ?_) (fun hh => ?_) | refine E.at_block_other rfl ?_)
  refine r1K (α := { x : Nd // nok x = true }) ⟨⟨z1.1, z2.1⟩, ?_⟩
  have h1 := z1.2
  have h2 := z2.2
  simp only [List.mem_cons, List.mem_nil_iff, or_false] at h1 h2
  rw [nok_iff]
  dsimp only
  omega
theorem c_l1Max {a b : Int} (w : World) : Calls Try.prog 140 #[.int .i64 a, .int .i64 b] w (Ret (fun _ : Unit => .int .i64 (if b < a then a else b)) (fun _ => []) w) := by
  refine enter (args := _) Try.func140 rfl Try.ntmps140 (by simp) ?_
  repeat' (first | refine E.st ?_ | refine E.q3 ?_ | refine E.q ?_ | refine E.qs ?_ | refine E.q2 ?_ | refine E.q4 ?_ | refine E.tr ?_ | refine E.ap (fun _ _ => ?_) | refine E.b1 (fun _ _ => ?_) | refine E.b0 (fun _ _ => ?_) | refine E.bsn (fun _ _ => ?_) | refine E.mk (fun _ _ => ?_) | refine E.bxO (fun _ => ?_) | refine E.al (fun _ => ?_) | refine E.sbO ?_ | refine E.dq ?_ | refine E.ct ?_ | refine E.cf ?_ | refine E.cs (fun hh => ?_) (fun hh => ?_) | refine E.at_block_other rfl ?_)
  all_goals (refine ri ?_; simp [*])
theorem c_l1Mix {a b : Int} {m : Bool} (w : World) : Calls Try.prog 134 #[.int .i64 a, .int .i64 b, .bool m] w (Ret (fun z : { z : Int // 0 ≤ z ∧ z ≤ 7 } => .int .i64 z.1) (fun _ => []) w) := by
  refine enter (args := _) Try.func134 rfl Try.ntmps134 (by simp) ?_
  repeat' (first | refine E.st ?_ | refine E.q3 ?_ | refine E.q ?_ | refine E.qs ?_ | refine E.q2 ?_ | refine E.q4 ?_ | refine E.tr ?_ | refine E.ap (fun _ _ => ?_) | refine E.b1 (fun _ _ => ?_) | refine E.b0 (fun _ _ => ?_) | refine E.bsn (fun _ _ => ?_) | refine E.mk (fun _ _ => ?_) | refine E.bxO (fun _ => ?_) | refine E.al (fun _ => ?_) | refine E.sbO ?_ | refine E.dq ?_ | refine E.ct ?_ | refine E.cf ?_ | refine E.cs (fun hh => ?_) (fun hh => ?_) | refine E.at_block_other rfl ?_)
  refine lq (fun p : Nat × Nat => p.1 ≤ 3 ∧ p.2 < 2 ^ p.1) (fun p => [(7, .pl (.int .i64 (p.2 : Int))), (8, .pl (.int .i64 (2 - (p.1 : Int))))]) (fun _ => []) (fun p => 3 - p.1) (0, 0) ⟨by omega, by simp⟩ (fun p hp => ?_)
  obtain ⟨k, z⟩ := p
  obtain ⟨hk, hz⟩ := hp
  dsimp only at hk hz ⊢
  have hz8 : z < 8 := Nat.lt_of_lt_of_le hz (Nat.pow_le_pow_right (by omega) hk)
  have hp2 : 2 ^ (k + 1) = 2 * 2 ^ k := by rw [Nat.pow_succ]; omega
  rcases Nat.lt_or_ge k 3 with hlt | hge
  · repeat' (first | refine E.st ?_ | refine E.cl (h := fun _ w _ => c_s_l1Has w) (k := ?_)  | refine E.q3 ?_ | refine E.q ?_ | refine E.qs ?_ | refine E.q2 ?_ | refine E.q4 ?_ | refine E.tr ?_ | refine E.ap (fun _ _ => ?_) | refine E.b1 (fun _ _ => ?_) | refine E.b0 (fun _ _ => ?_) | refine E.bsn (fun _ _ => ?_) | refine E.mk (fun _ _ => ?_) | refine E.bxO (fun _ => ?_) | refine E.al (fun _ => ?_) | refine E.sbO ?_ | refine E.dq ?_ | refine E.ct ?_ | refine E.cf ?_ | refine E.cs (fun hh => ?_) (fun hh => ?_) | refine E.at_block_other rfl ?_)
    · exact rd (k + 1, z * 2 + 1) ⟨by dsimp only; omega, by dsimp only; omega⟩
    · exact rd (k + 1, z * 2) ⟨by dsimp only; omega, by dsimp only; omega⟩
  · repeat' (first | refine E.st ?_ | refine E.q3 ?_ | refine E.q ?_ | refine E.qs ?_ | refine E.q2 ?_ | refine E.q4 ?_ | refine E.tr ?_ | refine E.ap (fun _ _ => ?_) | refine E.b1 (fun _ _ => ?_) | refine E.b0 (fun _ _ => ?_) | refine E.bsn (fun _ _ => ?_) | refine E.mk (fun _ _ => ?_) | refine E.bxO (fun _ => ?_) | refine E.al (fun _ => ?_) | refine E.sbO ?_ | refine E.dq ?_ | refine E.ct ?_ | refine E.cf ?_ | refine E.cs (fun hh => ?_) (fun hh => ?_) | refine E.at_block_other rfl ?_)
    exact r1 (α := { z : Int // 0 ≤ z ∧ z ≤ 7 }) ⟨(z : Int), by omega, by omega⟩
end E
end Go.Proofs.Ytjdagbicjhmeeaa
