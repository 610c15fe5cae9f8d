/- The draws: what is asked; graphs that are bent. -/
import Derived.Test.YtjdagbicjhmeeaaJz
namespace Go.Proofs.Ytjdagbicjhmeeaa
namespace E
open Go Go.RowKit
set_option linter.unusedSimpArgs false
set_option linter.unusedVariables false
set_option maxHeartbeats 1000000
set_option maxRecDepth 10000
attribute [local irreducible] HC HL HQ HX HO At Y YV Opd Opds KnX Sl Ld Src GV RV Calls Code.wp eptr adr RdF ownF OneX HG LdC
theorem c_l6Query_1 {g : Nat} {bv : Value} {bs : List UInt8} {p : Nat} {w0 : World} {K : List Ck} {v u : Value} {ns : List Nd} (w : World) (hw : KOk w0 (.box g 121 [bv, .int .i64 ((p : Nat) : Int)] :: K) w) (hb : RdIn w0 K bv bs := by exact rdI) (hn : RdIn w0 K v ns := by exact rdI) (hu : u.oneCell' = true) (h1 : 0 < ns.length) (hp : p ≤ 99999900 := by omega) :
    Calls Try.prog 61 #[.pointer (some ⟨g, 0, none⟩), .agg #[v, u]] w (RetK (fun z : Qu × { q : Nat // p ≤ q ∧ q ≤ p + 20 } => .agg #[.int .i64 z.1.k, .int .i64 z.1.n.l, .int .i64 z.1.n.n]) (fun z => .box g 121 [bv, .int .i64 ((z.2.1 : Nat) : Int)] :: K) w0) := by
  have m1 := (hn w hw.drop).le
  have o1 := (hn w hw.drop).one
  simp only [maxLen] at m1
  refine enterK (args := _) hw Try.func61 rfl Try.ntmps61 (by simp) ?_
  repeat' (first | refine E.st ?_ | refine E.al (fun g5 => ?_) | refine E.ug ?_ | refine E.dxq2 g g5 (i := 5) [0, 1, 2, 3, 4, 5, 6, 7, 8, 9, 10] ?_ | refine E.ckq (h := fun w hw => c_l2Node w hw) (k := fun zq => ?_) | refine E.ckq (h := fun w hw => c_num w hw (xs := [1, 2, 3, 4, 2, 1])) (k := fun z => ?_) | refine E.ckq (h := fun w hw => c_num w hw (xs := [0, 5, -1, 3])) (k := fun z => ?_) | refine E.ckq (h := fun w hw => c_num w hw (xs := [-1, 41])) (k := fun z => ?_) | refine E.ckq (h := fun w hw => c_pick w hw) (k := fun z => E.wx (get_lt (xs := ns) (k := z.1) (by have := z.2.1; omega)) (fun x hx => ?_)) | refine E.ckq (h := fun w hw => c_pick w hw) (k := fun z => ?_) | refine E.q3 ?_ | refine E.q ?_ | refine E.qs ?_ | refine E.q2 ?_ | refine E.q4 ?_ | refine E.tr ?_ | refine E.ap (fun _ _ => ?_) | refine E.b1 (fun _ _ => ?_) | refine E.b0 (fun _ _ => ?_) | refine E.bsn (fun _ _ => ?_) | refine E.mk (fun _ _ => ?_) | refine E.bxO (fun _ => ?_) | refine E.al (fun _ => ?_) | refine E.sbO ?_ | refine E.dq ?_ | refine E.ct ?_ | refine E.cf ?_ | refine E.cs (fun hh => ?_) (fun hh => ?_) | refine E.at_block_other rfl ?_)
  all_goals first
    | (refine r1K (α := Qu × { q : Nat // p ≤ q ∧ q ≤ p + 20 }) (⟨_, ⟨0, 0⟩⟩, ⟨_, ?_⟩); (try dsimp only); omega)
    | (refine r1K (α := Qu × { q : Nat // p ≤ q ∧ q ≤ p + 20 }) (⟨_, ⟨0, z.1⟩⟩, ⟨_, ?_⟩); (try dsimp only); omega)
    | (refine r1K (α := Qu × { q : Nat // p ≤ q ∧ q ≤ p + 20 }) (⟨_, zq.1⟩, ⟨_, ?_⟩); (try dsimp only); omega)
    | (refine r1K (α := Qu × { q : Nat // p ≤ q ∧ q ≤ p + 20 }) (⟨_, x⟩, ⟨_, ?_⟩); (try dsimp only); omega)
    | (refine r1K (α := Qu × { q : Nat // p ≤ q ∧ q ≤ p + 20 }) (⟨_, ⟨x.l, z.1⟩⟩, ⟨_, ?_⟩); (try dsimp only); omega)
    | (refine r1K (α := Qu × { q : Nat // p ≤ q ∧ q ≤ p + 20 }) (⟨_, ⟨zq.1.l, z.1⟩⟩, ⟨_, ?_⟩); (try dsimp only); omega)
    | trace_state
theorem c_l6Query_0 {g : Nat} {bv : Value} {bs : List UInt8} {p : Nat} {w0 : World} {K : List Ck} {v u : Value} {ns : List Nd} (w : World) (hw : KOk w0 (.box g 121 [bv, .int .i64 ((p : Nat) : Int)] :: K) w) (hb : RdIn w0 K bv bs := by exact rdI) (hn : RdIn w0 K v ns := by exact rdI) (hu : u.oneCell' = true) (h1 : ns.length = 0) (hp : p ≤ 99999900 := by omega) :
    Calls Try.prog 61 #[.pointer (some ⟨g, 0, none⟩), .agg #[v, u]] w (RetK (fun z : Qu × { q : Nat // p ≤ q ∧ q ≤ p + 20 } => .agg #[.int .i64 z.1.k, .int .i64 z.1.n.l, .int .i64 z.1.n.n]) (fun z => .box g 121 [bv, .int .i64 ((z.2.1 : Nat) : Int)] :: K) w0) := by
  have m1 := (hn w hw.drop).le
  have o1 := (hn w hw.drop).one
  simp only [maxLen] at m1
  refine enterK (args := _) hw Try.func61 rfl Try.ntmps61 (by simp) ?_
  repeat' (first | refine E.st ?_ | refine E.al (fun g5 => ?_) | refine E.sk ?_ | refine E.ckq (h := fun w hw => c_l2Node w hw) (k := fun zq => ?_) | refine E.ckq (h := fun w hw => c_num w hw (xs := [1, 2, 3, 4, 2, 1])) (k := fun z => ?_) | refine E.ckq (h := fun w hw => c_num w hw (xs := [0, 5, -1, 3])) (k := fun z => ?_) | refine E.ckq (h := fun w hw => c_num w hw (xs := [-1, 41])) (k := fun z => ?_) | refine E.ckq (h := fun w hw => c_pick w hw) (k := fun z => ?_) | refine E.q3 ?_ | refine E.q ?_ | refine E.qs ?_ | refine E.q2 ?_ | refine E.q4 ?_ | refine E.tr ?_ | refine E.ap (fun _ _ => ?_) | refine E.b1 (fun _ _ => ?_) | refine E.b0 (fun _ _ => ?_) | refine E.bsn (fun _ _ => ?_) | refine E.mk (fun _ _ => ?_) | refine E.bxO (fun _ => ?_) | refine E.al (fun _ => ?_) | refine E.sbO ?_ | refine E.dq ?_ | refine E.ct ?_ | refine E.cf ?_ | refine E.cs (fun hh => ?_) (fun hh => ?_) | refine E.at_block_other rfl ?_)
  all_goals first
    | (refine r1K (α := Qu × { q : Nat // p ≤ q ∧ q ≤ p + 20 }) (⟨_, ⟨0, 0⟩⟩, ⟨_, ?_⟩); (try dsimp only); omega)
    | (refine r1K (α := Qu × { q : Nat // p ≤ q ∧ q ≤ p + 20 }) (⟨_, ⟨0, z.1⟩⟩, ⟨_, ?_⟩); (try dsimp only); omega)
    | (refine r1K (α := Qu × { q : Nat // p ≤ q ∧ q ≤ p + 20 }) (⟨_, zq.1⟩, ⟨_, ?_⟩); (try dsimp only); omega)
    | (refine r1K (α := Qu × { q : Nat // p ≤ q ∧ q ≤ p + 20 }) (⟨_, x⟩, ⟨_, ?_⟩); (try dsimp only); omega)
    | (refine r1K (α := Qu × { q : Nat // p ≤ q ∧ q ≤ p + 20 }) (⟨_, ⟨x.l, z.1⟩⟩, ⟨_, ?_⟩); (try dsimp only); omega)
    | (refine r1K (α := Qu × { q : Nat // p ≤ q ∧ q ≤ p + 20 }) (⟨_, ⟨zq.1.l, z.1⟩⟩, ⟨_, ?_⟩); (try dsimp only); omega)
    | (exfalso; simp_all; done)
    | trace_state
theorem c_l6Query {g : Nat} {bv : Value} {bs : List UInt8} {p : Nat} {w0 : World} {K : List Ck} {v u : Value} {ns : List Nd} (w : World) (hw : KOk w0 (.box g 121 [bv, .int .i64 ((p : Nat) : Int)] :: K) w) (hb : RdIn w0 K bv bs := by exact rdI) (hn : RdIn w0 K v ns := by exact rdI) (hu : u.oneCell' = true := by assumption) (hp : p ≤ 99999900 := by omega) :
    Calls Try.prog 61 #[.pointer (some ⟨g, 0, none⟩), .agg #[v, u]] w (RetK (fun z : Qu × { q : Nat // p ≤ q ∧ q ≤ p + 20 } => .agg #[.int .i64 z.1.k, .int .i64 z.1.n.l, .int .i64 z.1.n.n]) (fun z => .box g 121 [bv, .int .i64 ((z.2.1 : Nat) : Int)] :: K) w0) := by
  rcases Nat.eq_zero_or_pos ns.length with h1 | h1
  · exact c_l6Query_0 w hw hb hn hu h1 hp
  · exact c_l6Query_1 w hw hb hn hu h1 hp
end E
end Go.Proofs.Ytjdagbicjhmeeaa
/- The draws: graphs that are bent. -/
namespace Go.Proofs.Ytjdagbicjhmeeaa
namespace E
open Go Go.RowKit
set_option linter.unusedSimpArgs false
set_option linter.unusedVariables false
set_option maxHeartbeats 1000000
set_option maxRecDepth 10000
attribute [local irreducible] HC HL HQ HX HO At Y YV Opd Opds KnX Sl Ld Src GV RV Calls Code.wp eptr adr RdF ownF OneX HG LdC
def cutV (b : Bool) (v : Value) (n : Nat) : Value := if b = true then E.part v 2 1 n else v
def cutN (b : Bool) (ns : List Nd) : List Nd := if b = true then ns.drop 1 else ns
theorem putN_len (ns : List Nd) (n : Nd) : (putN ns n).length = ns.length + 1 := by
  unfold putN
  have := congrArg List.length (List.takeWhile_append_dropWhile (p := fun x => decide (cd x < cd n)) (l := ns))
  simp only [List.length_append, List.length_cons] at this ⊢
  omega
/-- What a bent graph is told by: its rows, whether the first node is cut off, where the draw stands. -/
abbrev BT (p : Nat) := { z : (V1 × V1) × Gr × Bool × Nat // z.2.1.ns.length ≤ 1010 ∧ z.2.1.es.length ≤ 1010 ∧ (z.2.2.1 = true → 0 < z.2.1.ns.length) ∧ p ≤ z.2.2.2 ∧ z.2.2.2 ≤ p + 20 }
end E
end Go.Proofs.Ytjdagbicjhmeeaa
