/- The draws: edges. -/
import Derived.Test.YtjdagbicjhmeeaaKb
namespace Go.Proofs.Ytjdagbicjhmeeaa
namespace E
open Go Go.RowKit
set_option linter.unusedSimpArgs false
set_option linter.unusedVariables false
set_option maxHeartbeats 1000000
set_option maxRecDepth 10000
attribute [local irreducible] HC HL HQ HX HO At Y YV Opd Opds KnX Sl Ld Src GV RV Calls Code.wp eptr adr RdF ownF OneX HG LdC
theorem c_l2Edge {g : Nat} {bv : Value} {bs : List UInt8} {p : Nat} {w0 : World} {K : List Ck} {v u : Value} {ns : List Nd} (w : World) (hw : KOk w0 (.box g 121 [bv, .int .i64 ((p : Nat) : Int)] :: K) w) (hb : RdIn w0 K bv bs := by exact rdI) (hn : RdIn w0 K v ns := by exact rdI) (hp : p ≤ 999999900 := by omega) :
    Calls Try.prog 114 #[.pointer (some ⟨g, 0, none⟩), .agg #[v, u]] w (RetK (fun z : Eg × { q : Nat // p ≤ q ∧ q ≤ p + 10 } => .agg #[.int .i64 z.1.l, .int .i64 z.1.a.l, .int .i64 z.1.a.n, .int .i64 z.1.b.l, .int .i64 z.1.b.n]) (fun z => .box g 121 [bv, .int .i64 ((z.2.1 : Nat) : Int)] :: K) w0) := by
  have m1 := (hn w hw.drop).le
  simp only [maxLen] at m1
  by_cases h1 : 1 < ns.length
  · refine enterK (args := _) hw Try.func114 rfl Try.ntmps114 (by simp) ?_
    repeat' (first | refine E.st ?_ | refine E.ug ?_ | refine E.dxp g [0, 1, 2, 3, 4, 5, 6, 7, 8, 9] ?_ | refine E.ckq (h := fun w hw => c_l2Node w hw) (k := fun z1 => ?_) | refine E.ckq (h := fun w hw => c_pick w hw) (k := fun z => E.wx (get_lt (xs := ns) (k := z.1) (by have := z.2.1; omega)) (fun x hx => ?_)) | refine E.ckq (h := fun w hw => c_pick w hw) (k := fun z2 => ?_) | refine E.cm (h := fun w _ => c_l1Mix w) (k := fun z3 => ?_) | refine E.ckq (h := fun w hw => c_num w hw (xs := [0, 0, 0, 1, 2, 4])) (k := fun z4 => ?_) | refine E.cl (h := fun _ w _ => c_s_l2Code w) (k := ?_)  | refine E.q3 ?_ | refine E.q ?_ | refine E.qs ?_ | refine E.q2 ?_ | refine E.q4 ?_ | refine E.tr ?_ | refine E.ap (fun _ _ => ?_) | refine E.b1 (fun _ _ => ?_) | refine E.b0 (fun _ _ => ?_) | refine E.bsn (fun _ _ => ?_) | refine E.mk (fun _ _ => ?_) | refine E.bxO (fun _ => ?_) | refine E.al (fun _ => ?_) | refine E.sbO ?_ | refine E.dq ?_ | refine E.ct ?_ | refine E.cf ?_ | refine E.cs (fun hh => ?_) (fun hh => ?_) | refine E.at_block_other rfl ?_)
    all_goals (refine r1K (α := Eg × { q : Nat // p ≤ q ∧ q ≤ p + 10 }) (⟨_, ⟨_, _⟩, ⟨_, _⟩⟩, ⟨_, ?_⟩); omega)
  · refine enterK (args := _) hw Try.func114 rfl Try.ntmps114 (by simp) ?_
    repeat' (first | refine E.st ?_ | refine E.sk ?_ | refine E.ckq (h := fun w hw => c_l2Node w hw) (k := fun z1 => ?_) | refine E.cm (h := fun w _ => c_l1Mix w) (k := fun z3 => ?_) | refine E.ckq (h := fun w hw => c_num w hw (xs := [0, 0, 0, 1, 2, 4])) (k := fun z4 => ?_) | refine E.cl (h := fun _ w _ => c_s_l2Code w) (k := ?_)  | refine E.q3 ?_ | refine E.q ?_ | refine E.qs ?_ | refine E.q2 ?_ | refine E.q4 ?_ | refine E.tr ?_ | refine E.ap (fun _ _ => ?_) | refine E.b1 (fun _ _ => ?_) | refine E.b0 (fun _ _ => ?_) | refine E.bsn (fun _ _ => ?_) | refine E.mk (fun _ _ => ?_) | refine E.bxO (fun _ => ?_) | refine E.al (fun _ => ?_) | refine E.sbO ?_ | refine E.dq ?_ | refine E.ct ?_ | refine E.cf ?_ | refine E.cs (fun hh => ?_) (fun hh => ?_) | refine E.at_block_other rfl ?_)
    all_goals (refine r1K (α := Eg × { q : Nat // p ≤ q ∧ q ≤ p + 10 }) (⟨_, ⟨_, _⟩, ⟨_, _⟩⟩, ⟨_, ?_⟩); omega)
end E
end Go.Proofs.Ytjdagbicjhmeeaa
