/- The draws: what is done to a graph. -/
import Derived.Test.YtpiiapoafmnhhaaGreatM07
import Derived.Test.YtpiiapoafmnhhaaGreatM03
import Derived.Test.YtpiiapoafmnhhaaGreatM10
import Derived.Test.YtpiiapoafmnhhaaGreatM08
import Derived.Test.YtpiiapoafmnhhaaGreatUg
namespace Go.Proofs.YtpiiapoafmnhhaaGreat
namespace E
open Go Go.RowKit
set_option linter.unusedSimpArgs false
set_option linter.unusedVariables false
set_option maxHeartbeats 1000000
set_option maxRecDepth 10000
attribute [local irreducible] HC HL HQ HX HO At Y YV Opd Opds KnX Sl Ld Src GV RV Calls Code.wp eptr adr RdF ownF OneX HG LdC
theorem c_l2Op_00 {g : Nat} {bv : Value} {bs : List UInt8} {p : Nat} {w0 : World} {K : List Ck} {v u : Value} {ns : List Nd} {es : List Eg} (w : World) (hw : KOk w0 (.box g 152 [bv, .int .i64 ((p : Nat) : Int)] :: K) w) (hb : RdIn w0 K bv bs := by exact rdI) (hn : RdIn w0 K v ns := by exact rdI) (he : RdIn w0 K u es := by exact rdI) (h1 : es.length = 0) (h2 : ns.length = 0) (hp : p ≤ 999999000 := by omega) :
    Calls Tryz.prog 108 #[.pointer (some ⟨g, 0, none⟩), .agg #[v, u]] w (RetK (fun z : Opn × { q : Nat // p ≤ q ∧ q ≤ p + 30 } => .agg #[.int .i64 z.1.k, .int .i64 z.1.n.l, .int .i64 z.1.n.n, .int .i64 z.1.e.l, .int .i64 z.1.e.a.l, .int .i64 z.1.e.a.n, .int .i64 z.1.e.b.l, .int .i64 z.1.e.b.n]) (fun z => .box g 152 [bv, .int .i64 ((z.2.1 : Nat) : Int)] :: K) w0) := by
  have m1 := (hn w hw.drop).le
  have m2 := (he w hw.drop).le
  have o1 := (hn w hw.drop).one
  have o2 := (he w hw.drop).one
  simp only [maxLen] at m1 m2
  refine enterK (args := _) hw Tryz.func108 rfl Tryz.ntmps108 (by simp) ?_
  repeat' (first | (refine E.jb 0 (fun z : Opn × Nat => p ≤ z.2 ∧ z.2 ≤ p + 20) (fun _ => []) (fun z => [.box g5 86 [.int .i64 z.1.k, .int .i64 z.1.n.l, .int .i64 z.1.n.n, .int .i64 z.1.e.l, .int .i64 z.1.e.a.l, .int .i64 z.1.e.a.n, .int .i64 z.1.e.b.l, .int .i64 z.1.e.b.n], .box g 152 [bv, .int .i64 ((z.2 : Nat) : Int)]]) [] [.box g5 86 _, .box g 152 _] ?_ (fun zz hz => ?_) <;> dsimp only [List.cons_append, List.nil_append]) | refine E.st ?_ | refine E.al (fun g5 => ?_) | refine E.sk ?_ | refine E.ckq (h := fun w hw => c_l2Node w hw) (k := fun z => ?_) | refine E.ckq (h := fun w hw => c_l2Edge w hw) (k := fun z => E.wy z.2.2 (fun _ => ?_)) | refine E.ckq (h := fun w hw => c_num w hw (xs := [1, 2, 2, 1, 2, 3, 4, 2])) (k := fun z => ?_) | refine E.ckq (h := fun w hw => c_num w hw (xs := [0, 5, -1, 2])) (k := fun z => ?_) | refine E.ckq (h := fun w hw => c_num w hw (xs := [-1, 41, 5])) (k := fun z => ?_) | refine E.ckq (h := fun w hw => c_num w hw (xs := [0, 8, -1])) (k := fun z => ?_) | refine E.ckq (h := fun w hw => c_pick w hw) (k := fun z => ?_) | refine E.q3 ?_ | refine E.q ?_ | refine E.qs ?_ | refine E.q2 ?_ | refine E.q4 ?_ | refine E.tr ?_ | refine E.ap (fun _ _ => ?_) | refine E.b1 (fun _ _ => ?_) | refine E.b0 (fun _ _ => ?_) | refine E.bsn (fun _ _ => ?_) | refine E.mk (fun _ _ => ?_) | refine E.bxO (fun _ => ?_) | refine E.al (fun _ => ?_) | refine E.sbO ?_ | refine E.dq ?_ | refine E.ct ?_ | refine E.cf ?_ | refine E.cs (fun hh => ?_) (fun hh => ?_) | refine E.at_block_other rfl ?_)
  all_goals first
    | (refine E.md (α := Opn × Nat) (⟨_, ⟨_, _⟩, ⟨_, ⟨_, _⟩, ⟨_, _⟩⟩⟩, _) ?_ (hK := KSub.pick pk (KSub.pick pk ks)); (try dsimp only); omega)
    | (refine r1K (α := Opn × { q : Nat // p ≤ q ∧ q ≤ p + 30 }) (⟨_, ⟨_, _⟩, ⟨_, ⟨_, _⟩, ⟨_, _⟩⟩⟩, ⟨_, ?_⟩); (try dsimp only); omega)
    | (refine E.md (α := Opn × Nat) (⟨_, ⟨_, _⟩, z.1⟩, z.2.1) ?_ (hK := KSub.pick pk (KSub.pick pk ks)); (try dsimp only); omega)
    | (refine r1K (α := Opn × { q : Nat // p ≤ q ∧ q ≤ p + 30 }) (⟨zz.1.k, ⟨zz.1.n.l, z.1⟩, zz.1.e⟩, ⟨_, ?_⟩); (try dsimp only); omega)
    | (refine r1K (α := Opn × { q : Nat // p ≤ q ∧ q ≤ p + 30 }) (⟨zz.1.k, zz.1.n, ⟨z.1, zz.1.e.a, zz.1.e.b⟩⟩, ⟨_, ?_⟩); (try dsimp only); omega)
    | (refine r1K (α := Opn × { q : Nat // p ≤ q ∧ q ≤ p + 30 }) (⟨zz.1.k, zz.1.n, ⟨zz.1.e.l, zz.1.e.a, zz.1.e.a⟩⟩, ⟨_, ?_⟩); (try dsimp only); omega)
    | (refine r1K (α := Opn × { q : Nat // p ≤ q ∧ q ≤ p + 30 }) (zz.1, ⟨_, ?_⟩); (try dsimp only); omega)
    | trace_state
theorem c_l2Op_01 {g : Nat} {bv : Value} {bs : List UInt8} {p : Nat} {w0 : World} {K : List Ck} {v u : Value} {ns : List Nd} {es : List Eg} (w : World) (hw : KOk w0 (.box g 152 [bv, .int .i64 ((p : Nat) : Int)] :: K) w) (hb : RdIn w0 K bv bs := by exact rdI) (hn : RdIn w0 K v ns := by exact rdI) (he : RdIn w0 K u es := by exact rdI) (h1 : es.length = 0) (h2 : 0 < ns.length) (hp : p ≤ 999999000 := by omega) :
    Calls Tryz.prog 108 #[.pointer (some ⟨g, 0, none⟩), .agg #[v, u]] w (RetK (fun z : Opn × { q : Nat // p ≤ q ∧ q ≤ p + 30 } => .agg #[.int .i64 z.1.k, .int .i64 z.1.n.l, .int .i64 z.1.n.n, .int .i64 z.1.e.l, .int .i64 z.1.e.a.l, .int .i64 z.1.e.a.n, .int .i64 z.1.e.b.l, .int .i64 z.1.e.b.n]) (fun z => .box g 152 [bv, .int .i64 ((z.2.1 : Nat) : Int)] :: K) w0) := by
  have m1 := (hn w hw.drop).le
  have m2 := (he w hw.drop).le
  have o1 := (hn w hw.drop).one
  have o2 := (he w hw.drop).one
  simp only [maxLen] at m1 m2
  refine enterK (args := _) hw Tryz.func108 rfl Tryz.ntmps108 (by simp) ?_
  repeat' (first | (refine E.jb 0 (fun z : Opn × Nat => p ≤ z.2 ∧ z.2 ≤ p + 20) (fun _ => []) (fun z => [.box g5 86 [.int .i64 z.1.k, .int .i64 z.1.n.l, .int .i64 z.1.n.n, .int .i64 z.1.e.l, .int .i64 z.1.e.a.l, .int .i64 z.1.e.a.n, .int .i64 z.1.e.b.l, .int .i64 z.1.e.b.n], .box g 152 [bv, .int .i64 ((z.2 : Nat) : Int)]]) [] [.box g5 86 _, .box g 152 _] ?_ (fun zz hz => ?_) <;> dsimp only [List.cons_append, List.nil_append]) | refine E.st ?_ | refine E.al (fun g5 => ?_) | refine E.ug ?_ | refine E.sk ?_ | refine E.dxq2 g g5 (i := 14) [0, 1, 2, 3, 4, 5, 6, 7, 8, 9, 10] ?_ | refine E.ckq (h := fun w hw => c_l2Node w hw) (k := fun z => ?_) | refine E.ckq (h := fun w hw => c_l2Edge w hw) (k := fun z => E.wy z.2.2 (fun _ => ?_)) | refine E.ckq (h := fun w hw => c_num w hw (xs := [1, 2, 2, 1, 2, 3, 4, 2])) (k := fun z => ?_) | refine E.ckq (h := fun w hw => c_num w hw (xs := [0, 5, -1, 2])) (k := fun z => ?_) | refine E.ckq (h := fun w hw => c_num w hw (xs := [-1, 41, 5])) (k := fun z => ?_) | refine E.ckq (h := fun w hw => c_num w hw (xs := [0, 8, -1])) (k := fun z => ?_) | refine E.ckq (h := fun w hw => c_pick w hw) (k := fun z => E.wx (get_lt (xs := ns) (k := z.1) (by have := z.2.1; omega)) (fun x hx => ?_)) | refine E.ckq (h := fun w hw => c_pick w hw) (k := fun z => ?_) | refine E.q3 ?_ | refine E.q ?_ | refine E.qs ?_ | refine E.q2 ?_ | refine E.q4 ?_ | refine E.tr ?_ | refine E.ap (fun _ _ => ?_) | refine E.b1 (fun _ _ => ?_) | refine E.b0 (fun _ _ => ?_) | refine E.bsn (fun _ _ => ?_) | refine E.mk (fun _ _ => ?_) | refine E.bxO (fun _ => ?_) | refine E.al (fun _ => ?_) | refine E.sbO ?_ | refine E.dq ?_ | refine E.ct ?_ | refine E.cf ?_ | refine E.cs (fun hh => ?_) (fun hh => ?_) | refine E.at_block_other rfl ?_)
  all_goals first
    | (refine E.md (α := Opn × Nat) (⟨_, ⟨_, _⟩, ⟨_, ⟨_, _⟩, ⟨_, _⟩⟩⟩, _) ?_ (hK := KSub.pick pk (KSub.pick pk ks)); (try dsimp only); omega)
    | (refine r1K (α := Opn × { q : Nat // p ≤ q ∧ q ≤ p + 30 }) (⟨_, ⟨_, _⟩, ⟨_, ⟨_, _⟩, ⟨_, _⟩⟩⟩, ⟨_, ?_⟩); (try dsimp only); omega)
    | (refine E.md (α := Opn × Nat) (⟨_, ⟨_, _⟩, z.1⟩, z.2.1) ?_ (hK := KSub.pick pk (KSub.pick pk ks)); (try dsimp only); omega)
    | (refine r1K (α := Opn × { q : Nat // p ≤ q ∧ q ≤ p + 30 }) (⟨zz.1.k, ⟨zz.1.n.l, z.1⟩, zz.1.e⟩, ⟨_, ?_⟩); (try dsimp only); omega)
    | (refine r1K (α := Opn × { q : Nat // p ≤ q ∧ q ≤ p + 30 }) (⟨zz.1.k, zz.1.n, ⟨z.1, zz.1.e.a, zz.1.e.b⟩⟩, ⟨_, ?_⟩); (try dsimp only); omega)
    | (refine r1K (α := Opn × { q : Nat // p ≤ q ∧ q ≤ p + 30 }) (⟨zz.1.k, zz.1.n, ⟨zz.1.e.l, zz.1.e.a, zz.1.e.a⟩⟩, ⟨_, ?_⟩); (try dsimp only); omega)
    | (refine r1K (α := Opn × { q : Nat // p ≤ q ∧ q ≤ p + 30 }) (zz.1, ⟨_, ?_⟩); (try dsimp only); omega)
    | trace_state
theorem c_l2Op_10 {g : Nat} {bv : Value} {bs : List UInt8} {p : Nat} {w0 : World} {K : List Ck} {v u : Value} {ns : List Nd} {es : List Eg} (w : World) (hw : KOk w0 (.box g 152 [bv, .int .i64 ((p : Nat) : Int)] :: K) w) (hb : RdIn w0 K bv bs := by exact rdI) (hn : RdIn w0 K v ns := by exact rdI) (he : RdIn w0 K u es := by exact rdI) (h1 : 0 < es.length) (h2 : ns.length = 0) (hp : p ≤ 999999000 := by omega) :
    Calls Tryz.prog 108 #[.pointer (some ⟨g, 0, none⟩), .agg #[v, u]] w (RetK (fun z : Opn × { q : Nat // p ≤ q ∧ q ≤ p + 30 } => .agg #[.int .i64 z.1.k, .int .i64 z.1.n.l, .int .i64 z.1.n.n, .int .i64 z.1.e.l, .int .i64 z.1.e.a.l, .int .i64 z.1.e.a.n, .int .i64 z.1.e.b.l, .int .i64 z.1.e.b.n]) (fun z => .box g 152 [bv, .int .i64 ((z.2.1 : Nat) : Int)] :: K) w0) := by
  have m1 := (hn w hw.drop).le
  have m2 := (he w hw.drop).le
  have o1 := (hn w hw.drop).one
  have o2 := (he w hw.drop).one
  simp only [maxLen] at m1 m2
  refine enterK (args := _) hw Tryz.func108 rfl Tryz.ntmps108 (by simp) ?_
  repeat' (first | (refine E.jb 0 (fun z : Opn × Nat => p ≤ z.2 ∧ z.2 ≤ p + 20) (fun _ => []) (fun z => [.box g5 86 [.int .i64 z.1.k, .int .i64 z.1.n.l, .int .i64 z.1.n.n, .int .i64 z.1.e.l, .int .i64 z.1.e.a.l, .int .i64 z.1.e.a.n, .int .i64 z.1.e.b.l, .int .i64 z.1.e.b.n], .box g 152 [bv, .int .i64 ((z.2 : Nat) : Int)]]) [] [.box g5 86 _, .box g 152 _] ?_ (fun zz hz => ?_) <;> dsimp only [List.cons_append, List.nil_append]) | refine E.st ?_ | refine E.al (fun g5 => ?_) | refine E.ug ?_ | refine E.sk ?_ | refine E.dxq2 g g5 (i := 10) [0, 1, 2, 3, 4, 5, 6, 7, 8, 9, 10] ?_ | refine E.ckq (h := fun w hw => c_l2Node w hw) (k := fun z => ?_) | refine E.ckq (h := fun w hw => c_l2Edge w hw) (k := fun z => E.wy z.2.2 (fun _ => ?_)) | refine E.ckq (h := fun w hw => c_num w hw (xs := [1, 2, 2, 1, 2, 3, 4, 2])) (k := fun z => ?_) | refine E.ckq (h := fun w hw => c_num w hw (xs := [0, 5, -1, 2])) (k := fun z => ?_) | refine E.ckq (h := fun w hw => c_num w hw (xs := [-1, 41, 5])) (k := fun z => ?_) | refine E.ckq (h := fun w hw => c_num w hw (xs := [0, 8, -1])) (k := fun z => ?_) | refine E.ckq (h := fun w hw => c_pick w hw) (k := fun z => E.wx (get_lt (xs := es) (k := z.1) (by have := z.2.1; omega)) (fun x hx => ?_)) | refine E.ckq (h := fun w hw => c_pick w hw) (k := fun z => ?_) | refine E.q3 ?_ | refine E.q ?_ | refine E.qs ?_ | refine E.q2 ?_ | refine E.q4 ?_ | refine E.tr ?_ | refine E.ap (fun _ _ => ?_) | refine E.b1 (fun _ _ => ?_) | refine E.b0 (fun _ _ => ?_) | refine E.bsn (fun _ _ => ?_) | refine E.mk (fun _ _ => ?_) | refine E.bxO (fun _ => ?_) | refine E.al (fun _ => ?_) | refine E.sbO ?_ | refine E.dq ?_ | refine E.ct ?_ | refine E.cf ?_ | refine E.cs (fun hh => ?_) (fun hh => ?_) | refine E.at_block_other rfl ?_)
  all_goals first
    | (refine E.md (α := Opn × Nat) (⟨_, ⟨_, _⟩, ⟨_, ⟨_, _⟩, ⟨_, _⟩⟩⟩, _) ?_ (hK := KSub.pick pk (KSub.pick pk ks)); (try dsimp only); omega)
    | (refine r1K (α := Opn × { q : Nat // p ≤ q ∧ q ≤ p + 30 }) (⟨_, ⟨_, _⟩, ⟨_, ⟨_, _⟩, ⟨_, _⟩⟩⟩, ⟨_, ?_⟩); (try dsimp only); omega)
    | (refine E.md (α := Opn × Nat) (⟨_, ⟨_, _⟩, z.1⟩, z.2.1) ?_ (hK := KSub.pick pk (KSub.pick pk ks)); (try dsimp only); omega)
    | (refine r1K (α := Opn × { q : Nat // p ≤ q ∧ q ≤ p + 30 }) (⟨zz.1.k, ⟨zz.1.n.l, z.1⟩, zz.1.e⟩, ⟨_, ?_⟩); (try dsimp only); omega)
    | (refine r1K (α := Opn × { q : Nat // p ≤ q ∧ q ≤ p + 30 }) (⟨zz.1.k, zz.1.n, ⟨z.1, zz.1.e.a, zz.1.e.b⟩⟩, ⟨_, ?_⟩); (try dsimp only); omega)
    | (refine r1K (α := Opn × { q : Nat // p ≤ q ∧ q ≤ p + 30 }) (⟨zz.1.k, zz.1.n, ⟨zz.1.e.l, zz.1.e.a, zz.1.e.a⟩⟩, ⟨_, ?_⟩); (try dsimp only); omega)
    | (refine r1K (α := Opn × { q : Nat // p ≤ q ∧ q ≤ p + 30 }) (zz.1, ⟨_, ?_⟩); (try dsimp only); omega)
    | trace_state
theorem c_l2Op_11 {g : Nat} {bv : Value} {bs : List UInt8} {p : Nat} {w0 : World} {K : List Ck} {v u : Value} {ns : List Nd} {es : List Eg} (w : World) (hw : KOk w0 (.box g 152 [bv, .int .i64 ((p : Nat) : Int)] :: K) w) (hb : RdIn w0 K bv bs := by exact rdI) (hn : RdIn w0 K v ns := by exact rdI) (he : RdIn w0 K u es := by exact rdI) (h1 : 0 < es.length) (h2 : 0 < ns.length) (hp : p ≤ 999999000 := by omega) :
    Calls Tryz.prog 108 #[.pointer (some ⟨g, 0, none⟩), .agg #[v, u]] w (RetK (fun z : Opn × { q : Nat // p ≤ q ∧ q ≤ p + 30 } => .agg #[.int .i64 z.1.k, .int .i64 z.1.n.l, .int .i64 z.1.n.n, .int .i64 z.1.e.l, .int .i64 z.1.e.a.l, .int .i64 z.1.e.a.n, .int .i64 z.1.e.b.l, .int .i64 z.1.e.b.n]) (fun z => .box g 152 [bv, .int .i64 ((z.2.1 : Nat) : Int)] :: K) w0) := by
  have m1 := (hn w hw.drop).le
  have m2 := (he w hw.drop).le
  have o1 := (hn w hw.drop).one
  have o2 := (he w hw.drop).one
  simp only [maxLen] at m1 m2
  refine enterK (args := _) hw Tryz.func108 rfl Tryz.ntmps108 (by simp) ?_
  repeat' (first | (refine E.jb 0 (fun z : Opn × Nat => p ≤ z.2 ∧ z.2 ≤ p + 20) (fun _ => []) (fun z => [.box g5 86 [.int .i64 z.1.k, .int .i64 z.1.n.l, .int .i64 z.1.n.n, .int .i64 z.1.e.l, .int .i64 z.1.e.a.l, .int .i64 z.1.e.a.n, .int .i64 z.1.e.b.l, .int .i64 z.1.e.b.n], .box g 152 [bv, .int .i64 ((z.2 : Nat) : Int)]]) [] [.box g5 86 _, .box g 152 _] ?_ (fun zz hz => ?_) <;> dsimp only [List.cons_append, List.nil_append]) | refine E.st ?_ | refine E.al (fun g5 => ?_) | refine E.ug ?_ | refine E.dxq2 g g5 (i := 10) [0, 1, 2, 3, 4, 5, 6, 7, 8, 9, 10] ?_ | refine E.dxq2 g g5 (i := 14) [0, 1, 2, 3, 4, 5, 6, 7, 8, 9, 10] ?_ | refine E.ckq (h := fun w hw => c_l2Node w hw) (k := fun z => ?_) | refine E.ckq (h := fun w hw => c_l2Edge w hw) (k := fun z => E.wy z.2.2 (fun _ => ?_)) | refine E.ckq (h := fun w hw => c_num w hw (xs := [1, 2, 2, 1, 2, 3, 4, 2])) (k := fun z => ?_) | refine E.ckq (h := fun w hw => c_num w hw (xs := [0, 5, -1, 2])) (k := fun z => ?_) | refine E.ckq (h := fun w hw => c_num w hw (xs := [-1, 41, 5])) (k := fun z => ?_) | refine E.ckq (h := fun w hw => c_num w hw (xs := [0, 8, -1])) (k := fun z => ?_) | refine E.ckq (h := fun w hw => c_pick w hw) (k := fun z => E.wx (get_lt (xs := es) (k := z.1) (by have := z.2.1; omega)) (fun x hx => ?_)) | refine E.ckq (h := fun w hw => c_pick w hw) (k := fun z => E.wx (get_lt (xs := ns) (k := z.1) (by have := z.2.1; omega)) (fun x hx => ?_)) | refine E.ckq (h := fun w hw => c_pick w hw) (k := fun z => ?_) | refine E.q3 ?_ | refine E.q ?_ | refine E.qs ?_ | refine E.q2 ?_ | refine E.q4 ?_ | refine E.tr ?_ | refine E.ap (fun _ _ => ?_) | refine E.b1 (fun _ _ => ?_) | refine E.b0 (fun _ _ => ?_) | refine E.bsn (fun _ _ => ?_) | refine E.mk (fun _ _ => ?_) | refine E.bxO (fun _ => ?_) | refine E.al (fun _ => ?_) | refine E.sbO ?_ | refine E.dq ?_ | refine E.ct ?_ | refine E.cf ?_ | refine E.cs (fun hh => ?_) (fun hh => ?_) | refine E.at_block_other rfl ?_)
  all_goals first
    | (refine E.md (α := Opn × Nat) (⟨_, ⟨_, _⟩, ⟨_, ⟨_, _⟩, ⟨_, _⟩⟩⟩, _) ?_ (hK := KSub.pick pk (KSub.pick pk ks)); (try dsimp only); omega)
    | (refine r1K (α := Opn × { q : Nat // p ≤ q ∧ q ≤ p + 30 }) (⟨_, ⟨_, _⟩, ⟨_, ⟨_, _⟩, ⟨_, _⟩⟩⟩, ⟨_, ?_⟩); (try dsimp only); omega)
    | (refine E.md (α := Opn × Nat) (⟨_, ⟨_, _⟩, z.1⟩, z.2.1) ?_ (hK := KSub.pick pk (KSub.pick pk ks)); (try dsimp only); omega)
    | (refine r1K (α := Opn × { q : Nat // p ≤ q ∧ q ≤ p + 30 }) (⟨zz.1.k, ⟨zz.1.n.l, z.1⟩, zz.1.e⟩, ⟨_, ?_⟩); (try dsimp only); omega)
    | (refine r1K (α := Opn × { q : Nat // p ≤ q ∧ q ≤ p + 30 }) (⟨zz.1.k, zz.1.n, ⟨z.1, zz.1.e.a, zz.1.e.b⟩⟩, ⟨_, ?_⟩); (try dsimp only); omega)
    | (refine r1K (α := Opn × { q : Nat // p ≤ q ∧ q ≤ p + 30 }) (⟨zz.1.k, zz.1.n, ⟨zz.1.e.l, zz.1.e.a, zz.1.e.a⟩⟩, ⟨_, ?_⟩); (try dsimp only); omega)
    | (refine r1K (α := Opn × { q : Nat // p ≤ q ∧ q ≤ p + 30 }) (zz.1, ⟨_, ?_⟩); (try dsimp only); omega)
    | trace_state
theorem c_l2Op {g : Nat} {bv : Value} {bs : List UInt8} {p : Nat} {w0 : World} {K : List Ck} {v u : Value} {ns : List Nd} {es : List Eg} (w : World) (hw : KOk w0 (.box g 152 [bv, .int .i64 ((p : Nat) : Int)] :: K) w) (hb : RdIn w0 K bv bs := by exact rdI) (hn : RdIn w0 K v ns := by exact rdI) (he : RdIn w0 K u es := by exact rdI) (hp : p ≤ 999999000 := by omega) :
    Calls Tryz.prog 108 #[.pointer (some ⟨g, 0, none⟩), .agg #[v, u]] w (RetK (fun z : Opn × { q : Nat // p ≤ q ∧ q ≤ p + 30 } => .agg #[.int .i64 z.1.k, .int .i64 z.1.n.l, .int .i64 z.1.n.n, .int .i64 z.1.e.l, .int .i64 z.1.e.a.l, .int .i64 z.1.e.a.n, .int .i64 z.1.e.b.l, .int .i64 z.1.e.b.n]) (fun z => .box g 152 [bv, .int .i64 ((z.2.1 : Nat) : Int)] :: K) w0) := by
  rcases Nat.eq_zero_or_pos es.length with h1 | h1 <;> rcases Nat.eq_zero_or_pos ns.length with h2 | h2
  · exact c_l2Op_00 w hw hb hn he h1 h2 hp
  · exact c_l2Op_01 w hw hb hn he h1 h2 hp
  · exact c_l2Op_10 w hw hb hn he h1 h2 hp
  · exact c_l2Op_11 w hw hb hn he h1 h2 hp
end E
end Go.Proofs.YtpiiapoafmnhhaaGreat
/- What is done to a graph of the call's own. -/
namespace Go.Proofs.YtpiiapoafmnhhaaGreat
namespace E
open Go Go.RowKit
set_option linter.unusedSimpArgs false
set_option linter.unusedVariables false
set_option maxHeartbeats 1000000
set_option maxRecDepth 10000
attribute [local irreducible] HC HL HQ HX HO At Y YV Opd Opds KnX Sl Ld Src GV RV Calls Code.wp eptr adr RdF ownF OneX HG LdC
theorem c_l2DoO {v u : Value} {g : Gr} {k nl nn el al an bl bn : Int} {w0 : World} {K : List Ck} (w : World) (hw : KOk w0 (ownF 32 v g.ns :: ownF 84 u g.es :: K) w) (hg : g.ok) :
    Calls Tryz.prog 115 #[.agg #[v, u], .agg #[.int .i64 k, .int .i64 nl, .int .i64 nn, .int .i64 el, .int .i64 al, .int .i64 an, .int .i64 bl, .int .i64 bn]] w (RetK (fun z : V1 × V1 => .tuple #[.agg #[z.1.1, z.2.1], .int .i64 (doG g ⟨k, ⟨nl, nn⟩, ⟨el, ⟨al, an⟩, ⟨bl, bn⟩⟩⟩).2]) (fun z => ownF 32 z.1.1 (doG g ⟨k, ⟨nl, nn⟩, ⟨el, ⟨al, an⟩, ⟨bl, bn⟩⟩⟩).1.ns :: ownF 84 z.2.1 (doG g ⟨k, ⟨nl, nn⟩, ⟨el, ⟨al, an⟩, ⟨bl, bn⟩⟩⟩).1.es :: K) w0) := by
  have hn40 := hg.1.len
  have he56 := hg.2.len
  have o1 := (RdF.of_own List.mem_cons_self hw : RdF w v g.ns).one
  have o2 := (RdF.of_own (List.mem_cons_of_mem _ List.mem_cons_self) hw : RdF w u g.es).one
  refine enterK (args := _) hw Tryz.func115 rfl Tryz.ntmps115 (by simp) ?_
  repeat' (first | refine E.st ?_ | refine E.al (fun g4 => ?_) | refine E.cl (h := fun _ w _ => c_s_OpLabel w) (k := ?_) | refine E.cl (h := fun _ w _ => c_l2Ends w (ns := g.ns) (es := g.es)) (k := ?_) | refine E.cm (h := fun w _ => c_l2Cut w (es := g.es)) (k := fun z => ?_) | refine E.cm (h := fun w _ => c_l2Off w (ns := g.ns) (es := g.es)) (k := fun z => ?_) | refine E.dxq g4 [0, 2, 3, 5, 1, 4, 6, 7] ?_ | refine E.dxq g4 [0, 2, 3, 5, 1, 4, 6, 7] ?_ | refine E.cm (h := fun w _ => c_l2CopyS w (ns := g.ns) (es := g.es)) (k := fun z => ?_) | refine E.ckq (h := fun w hw => c_l2PutNode w hw (hu := by rfl)) (k := fun z => E.wy z.2 (fun hz => ?_)) | refine E.ckq (h := fun w hw => c_l2PutEdge w hw (hu := by rfl)) (k := fun z => E.wy z.2 (fun hz => ?_)) | refine E.q3 ?_ | refine E.q ?_ | refine E.qs ?_ | refine E.q2 ?_ | refine E.q4 ?_ | refine E.tr ?_ | refine E.ap (fun _ _ => ?_) | refine E.b1 (fun _ _ => ?_) | refine E.b0 (fun _ _ => ?_) | refine E.bsn (fun _ _ => ?_) | refine E.mk (fun _ _ => ?_) | refine E.bxO (fun _ => ?_) | refine E.al (fun _ => ?_) | refine E.sbO ?_ | refine E.dq ?_ | refine E.ct ?_ | refine E.cf ?_ | refine E.cs (fun hh => ?_) (fun hh => ?_) | refine E.at_block_other rfl ?_)
  · have e : doG g ⟨k, ⟨nl, nn⟩, ⟨el, ⟨al, an⟩, ⟨bl, bn⟩⟩⟩ = (⟨g.ns, g.es⟩, 1) := by
      unfold doG; rw [if_pos hh]
    rw [e]
    exact rnK (α := V1 × V1) (⟨v, o1⟩, ⟨u, o2⟩) (hK := ksv)
  · rename_i h0
    have e : doG g ⟨k, ⟨nl, nn⟩, ⟨el, ⟨al, an⟩, ⟨bl, bn⟩⟩⟩ = (⟨g.ns, g.es⟩, endsC g ⟨k, ⟨nl, nn⟩, ⟨el, ⟨al, an⟩, ⟨bl, bn⟩⟩⟩) := by
      unfold doG; rw [if_neg h0, if_pos hh]
    rw [e]
    exact rnK (α := V1 × V1) (⟨v, o1⟩, ⟨u, o2⟩) (hK := ksv)
  · rename_i h0 h1 z1
    have hk1 : k = 1 := hh
    have e : doG g ⟨k, ⟨nl, nn⟩, ⟨el, ⟨al, an⟩, ⟨bl, bn⟩⟩⟩ = (⟨insN g.ns ⟨nl, nn⟩, g.es⟩, 0) := by
      have hz1 : endsC g ⟨k, ⟨nl, nn⟩, ⟨el, ⟨al, an⟩, ⟨bl, bn⟩⟩⟩ = 0 := by simpa using h1
      unfold doG; rw [if_neg h0, if_neg (fun h => h hz1)]
      unfold turnG; simp [hk1]
    rw [e]
    rw [putN_ins hg.1.ord]
    exact rnK (α := V1 × V1) (⟨z.1, z.2⟩, ⟨.slice z1.2.a z1.2.n z1.2.c, rfl⟩) (hv := by rw [h1]) (hK := ksv)
  · rename_i h0 h1 h2 z1
    have hk1 : k = 2 := hh
    have e : doG g ⟨k, ⟨nl, nn⟩, ⟨el, ⟨al, an⟩, ⟨bl, bn⟩⟩⟩ = (⟨g.ns, insE g.es ⟨el, ⟨al, an⟩, ⟨bl, bn⟩⟩⟩, 0) := by
      have hz1 : endsC g ⟨k, ⟨nl, nn⟩, ⟨el, ⟨al, an⟩, ⟨bl, bn⟩⟩⟩ = 0 := by simpa using h1
      unfold doG; rw [if_neg h0, if_neg (fun h => h hz1)]
      unfold turnG; simp [hk1]
    rw [e]
    have heok : eok ⟨el, ⟨al, an⟩, ⟨bl, bn⟩⟩ = true := by
      rcases olab_cases (Int.not_lt.1 h0) with ⟨hc, _⟩ | ⟨_, hc, _⟩
      · dsimp only at hc; omega
      · exact hc
    rw [putE_ins hg.2 heok]
    exact rnK (α := V1 × V1) (⟨.slice z1.1.a z1.1.n z1.1.c, rfl⟩, ⟨z.1, z.2⟩) (hv := by rw [h1]) (hK := ksv)
  · rename_i h0 h1 h2 h3
    have hk1 : k = 3 := hh
    have e : doG g ⟨k, ⟨nl, nn⟩, ⟨el, ⟨al, an⟩, ⟨bl, bn⟩⟩⟩ = (⟨g.ns, g.es.filter (fun e => !decide (e = ⟨el, ⟨al, an⟩, ⟨bl, bn⟩⟩))⟩, 0) := by
      have hz1 : endsC g ⟨k, ⟨nl, nn⟩, ⟨el, ⟨al, an⟩, ⟨bl, bn⟩⟩⟩ = 0 := by simpa using h1
      unfold doG; rw [if_neg h0, if_neg (fun h => h hz1)]
      unfold turnG; simp [hk1]
    rw [e]
    exact rnK (α := V1 × V1) (⟨v, o1⟩, ⟨.slice z.a z.n z.c, rfl⟩) (hv := by rw [h1]) (hK := ksv)
  · rename_i h0 h1 h2 h3
    have e : doG g ⟨k, ⟨nl, nn⟩, ⟨el, ⟨al, an⟩, ⟨bl, bn⟩⟩⟩ = (⟨g.ns.filter (fun x => !decide (x = ⟨nl, nn⟩)), g.es.filter (fun e => !decide (e.a = ⟨nl, nn⟩) && !decide (e.b = ⟨nl, nn⟩))⟩, 0) := by
      have hz1 : endsC g ⟨k, ⟨nl, nn⟩, ⟨el, ⟨al, an⟩, ⟨bl, bn⟩⟩⟩ = 0 := by simpa using h1
      unfold doG; rw [if_neg h0, if_neg (fun h => h hz1)]
      unfold turnG; simp [h2, h3, hh]
    rw [e]
    exact rnK (α := V1 × V1) (⟨.slice z.1.a z.1.n z.1.c, rfl⟩, ⟨.slice z.2.a z.2.n z.2.c, rfl⟩) (hv := by rw [h1]) (hK := ksv)
end E
end Go.Proofs.YtpiiapoafmnhhaaGreat
/- What is done to a graph of the call's own; the draw of a graph. -/
namespace Go.Proofs.YtpiiapoafmnhhaaGreat
namespace E
open Go Go.RowKit
set_option linter.unusedSimpArgs false
set_option linter.unusedVariables false
set_option maxHeartbeats 1000000
set_option maxRecDepth 10000
attribute [local irreducible] HC HL HQ HX HO At Y YV Opd Opds KnX Sl Ld Src GV RV Calls Code.wp eptr adr RdF ownF OneX HG LdC
theorem c_l2Graph {g : Nat} {bv : Value} {bs : List UInt8} {p : Nat} {w0 : World} {K : List Ck} (w : World) (hw : KOk w0 (.box g 152 [bv, .int .i64 ((p : Nat) : Int)] :: K) w) (hb : RdIn w0 K bv bs := by exact rdI) (hp : p ≤ 99999000 := by omega) :
    Calls Tryz.prog 71 #[.pointer (some ⟨g, 0, none⟩)] w (RetK (fun z : { z : (V1 × V1) × Gr × Nat // z.2.1.ok ∧ p ≤ z.2.2 ∧ z.2.2 ≤ p + 2000 } => .agg #[z.1.1.1.1, z.1.1.2.1]) (fun z => ownF 32 z.1.1.1.1 z.1.2.1.ns :: ownF 84 z.1.1.2.1 z.1.2.1.es :: .box g 152 [bv, .int .i64 ((z.1.2.2 : Nat) : Int)] :: K) w0) := by
  have hnl0 : (.slice none 0 0 : Value).oneCell' = true := rfl
  refine enterK (args := _) hw Tryz.func71 rfl Tryz.ntmps71 (by simp) ?_
  refine E.nl 32 (α := Nd) ?_
  refine E.nl 84 (α := Eg) ?_
  repeat' (first | refine E.st ?_ | refine E.al (fun g3 => ?_) | refine E.ckq (h := fun w hw => c_num w hw (xs := [12, 24, 36, 48, 60, 5, 0])) (k := fun z => E.wy z.2 (fun hz => ?_)) | refine E.q3 ?_ | refine E.q ?_ | refine E.qs ?_ | refine E.q2 ?_ | refine E.q4 ?_ | refine E.tr ?_ | refine E.ap (fun _ _ => ?_) | refine E.b1 (fun _ _ => ?_) | refine E.b0 (fun _ _ => ?_) | refine E.bsn (fun _ _ => ?_) | refine E.mk (fun _ _ => ?_) | refine E.bxO (fun _ => ?_) | refine E.al (fun _ => ?_) | refine E.sbO ?_ | refine E.dq ?_ | refine E.ct ?_ | refine E.cf ?_ | refine E.cs (fun hh => ?_) (fun hh => ?_) | refine E.at_block_other rfl ?_)
  have hz60 : 0 ≤ z.1 ∧ z.1 ≤ 60 := by
    simp only [List.mem_cons, List.mem_nil_iff, or_false] at hz
    omega
  have hok0 : (⟨[], []⟩ : Gr).ok := by
    rw [Gr.ok_iff]; rfl
  refine lq (fun s : Int × Nat × Gr × V1 × V1 => (0 ≤ s.1 ∧ s.1 ≤ 60) ∧ (p ≤ s.2.1 ∧ (s.2.1 : Int) ≤ p + 1 + 30 * (60 - s.1)) ∧ s.2.2.1.ok) (fun s => [(4, .pl (.int .i64 s.1))]) (fun s => [.box g3 45 [s.2.2.2.1.1, s.2.2.2.2.1], ownF 32 s.2.2.2.1.1 s.2.2.1.ns, ownF 84 s.2.2.2.2.1 s.2.2.1.es, .box g 152 [bv, .int .i64 ((s.2.1 : Nat) : Int)]]) (fun s => s.1.toNat) (z.1, p + 1, ⟨[], []⟩, ⟨.slice none 0 0, rfl⟩, ⟨.slice none 0 0, rfl⟩) ⟨hz60, by dsimp only; omega, hok0⟩ (fun s hs => ?_)
  obtain ⟨i, q, G, ⟨vN, hvN⟩, ⟨vE, hvE⟩⟩ := s
  obtain ⟨hi, hq, hG⟩ := hs
  dsimp only at hi hq hG hvN hvE ⊢
  simp only [List.cons_append, List.nil_append]
  have hnl := hG.1.len
  have hel := hG.2.len
  rcases Int.lt_or_le 0 i with hlt | hge
  · repeat' (first | refine E.st ?_ | refine E.dxk [.box g3 45 [vN, vE]] 8 (i := 5) [0, 1, 2, 3, 4, 5, 6, 7, 8] ?_ | refine E.qp ?_ | refine E.ckq (h := fun w hw => c_l2Op w hw) (k := fun z1 => E.wy z1.2.2 (fun h1 => ?_)) | refine E.ckl [ownF 32 vN G.ns, ownF 84 vE G.es] (hp := Spl.ownF pk rfl (Spl.ownF pk rfl (Spl.nil _))) (h := fun w hw => c_l2DoO w (hw.perm List.perm_append_comm) hG) (k := fun z2 => E.wy z2.1.2 (fun h2 => E.wy z2.2.2 (fun h3 => ?_))) | refine E.q3 ?_ | refine E.q ?_ | refine E.qs ?_ | refine E.q2 ?_ | refine E.q4 ?_ | refine E.tr ?_ | refine E.ap (fun _ _ => ?_) | refine E.b1 (fun _ _ => ?_) | refine E.b0 (fun _ _ => ?_) | refine E.bsn (fun _ _ => ?_) | refine E.mk (fun _ _ => ?_) | refine E.bxO (fun _ => ?_) | refine E.al (fun _ => ?_) | refine E.sbO ?_ | refine E.dq ?_ | refine E.ct ?_ | refine E.cf ?_ | refine E.cs (fun hh => ?_) (fun hh => ?_) | refine E.at_block_other rfl ?_)
    have hG' : (doG G ⟨z1.1.k, ⟨z1.1.n.l, z1.1.n.n⟩, ⟨z1.1.e.l, ⟨z1.1.e.a.l, z1.1.e.a.n⟩, ⟨z1.1.e.b.l, z1.1.e.b.n⟩⟩⟩).1.ok := hG.doG
    exact rd (α := Int × Nat × Gr × V1 × V1) (i - 1, z1.2.1, (doG G ⟨z1.1.k, ⟨z1.1.n.l, z1.1.n.n⟩, ⟨z1.1.e.l, ⟨z1.1.e.a.l, z1.1.e.a.n⟩, ⟨z1.1.e.b.l, z1.1.e.b.n⟩⟩⟩).1, z2.1, z2.2) ⟨by dsimp only; omega, by dsimp only; omega, hG'⟩ (by dsimp only; omega) (hK := ksv)
  · repeat' (first | refine E.st ?_ | refine E.cm (h := fun w hw => c_l2CopyS w (ns := G.ns) (es := G.es)) (k := fun z2 => ?_) | refine E.q3 ?_ | refine E.q ?_ | refine E.qs ?_ | refine E.q2 ?_ | refine E.q4 ?_ | refine E.tr ?_ | refine E.ap (fun _ _ => ?_) | refine E.b1 (fun _ _ => ?_) | refine E.b0 (fun _ _ => ?_) | refine E.bsn (fun _ _ => ?_) | refine E.mk (fun _ _ => ?_) | refine E.bxO (fun _ => ?_) | refine E.al (fun _ => ?_) | refine E.sbO ?_ | refine E.dq ?_ | refine E.ct ?_ | refine E.cf ?_ | refine E.cs (fun hh => ?_) (fun hh => ?_) | refine E.at_block_other rfl ?_)
    exact r1K (α := { z : (V1 × V1) × Gr × Nat // z.2.1.ok ∧ p ≤ z.2.2 ∧ z.2.2 ≤ p + 2000 }) ⟨((⟨.slice z2.1.a z2.1.n z2.1.c, rfl⟩, ⟨.slice z2.2.a z2.2.n z2.2.c, rfl⟩), G, q), hG, by dsimp only; omega, by dsimp only; omega⟩ (hK := ksv)
end E
end Go.Proofs.YtpiiapoafmnhhaaGreat
/- The draws: what is asked; graphs that are bent. -/
namespace Go.Proofs.YtpiiapoafmnhhaaGreat
namespace E
open Go Go.RowKit
set_option linter.unusedSimpArgs false
set_option linter.unusedVariables false
set_option maxHeartbeats 1000000
set_option maxRecDepth 10000
attribute [local irreducible] HC HL HQ HX HO At Y YV Opd Opds KnX Sl Ld Src GV RV Calls Code.wp eptr adr RdF ownF OneX HG LdC
theorem c_l6Query_1 {g : Nat} {bv : Value} {bs : List UInt8} {p : Nat} {w0 : World} {K : List Ck} {v u : Value} {ns : List Nd} (w : World) (hw : KOk w0 (.box g 152 [bv, .int .i64 ((p : Nat) : Int)] :: K) w) (hb : RdIn w0 K bv bs := by exact rdI) (hn : RdIn w0 K v ns := by exact rdI) (hu : u.oneCell' = true) (h1 : 0 < ns.length) (hp : p ≤ 99999900 := by omega) :
    Calls Tryz.prog 72 #[.pointer (some ⟨g, 0, none⟩), .agg #[v, u]] w (RetK (fun z : Qu × { q : Nat // p ≤ q ∧ q ≤ p + 20 } => .agg #[.int .i64 z.1.k, .int .i64 z.1.n.l, .int .i64 z.1.n.n]) (fun z => .box g 152 [bv, .int .i64 ((z.2.1 : Nat) : Int)] :: K) w0) := by
  have m1 := (hn w hw.drop).le
  have o1 := (hn w hw.drop).one
  simp only [maxLen] at m1
  refine enterK (args := _) hw Tryz.func72 rfl Tryz.ntmps72 (by simp) ?_
  repeat' (first | refine E.st ?_ | refine E.al (fun g5 => ?_) | refine E.ug ?_ | refine E.dxq2 g g5 (i := 5) [0, 1, 2, 3, 4, 5, 6, 7, 8, 9, 10] ?_ | refine E.ckq (h := fun w hw => c_l2Node w hw) (k := fun zq => ?_) | refine E.ckq (h := fun w hw => c_num w hw (xs := [1, 2, 3, 4, 2, 1])) (k := fun z => ?_) | refine E.ckq (h := fun w hw => c_num w hw (xs := [0, 5, -1, 3])) (k := fun z => ?_) | refine E.ckq (h := fun w hw => c_num w hw (xs := [-1, 41])) (k := fun z => ?_) | refine E.ckq (h := fun w hw => c_pick w hw) (k := fun z => E.wx (get_lt (xs := ns) (k := z.1) (by have := z.2.1; omega)) (fun x hx => ?_)) | refine E.ckq (h := fun w hw => c_pick w hw) (k := fun z => ?_) | refine E.q3 ?_ | refine E.q ?_ | refine E.qs ?_ | refine E.q2 ?_ | refine E.q4 ?_ | refine E.tr ?_ | refine E.ap (fun _ _ => ?_) | refine E.b1 (fun _ _ => ?_) | refine E.b0 (fun _ _ => ?_) | refine E.bsn (fun _ _ => ?_) | refine E.mk (fun _ _ => ?_) | refine E.bxO (fun _ => ?_) | refine E.al (fun _ => ?_) | refine E.sbO ?_ | refine E.dq ?_ | refine E.ct ?_ | refine E.cf ?_ | refine E.cs (fun hh => ?_) (fun hh => ?_) | refine E.at_block_other rfl ?_)
  all_goals first
    | (refine r1K (α := Qu × { q : Nat // p ≤ q ∧ q ≤ p + 20 }) (⟨_, ⟨0, 0⟩⟩, ⟨_, ?_⟩); (try dsimp only); omega)
    | (refine r1K (α := Qu × { q : Nat // p ≤ q ∧ q ≤ p + 20 }) (⟨_, ⟨0, z.1⟩⟩, ⟨_, ?_⟩); (try dsimp only); omega)
    | (refine r1K (α := Qu × { q : Nat // p ≤ q ∧ q ≤ p + 20 }) (⟨_, zq.1⟩, ⟨_, ?_⟩); (try dsimp only); omega)
    | (refine r1K (α := Qu × { q : Nat // p ≤ q ∧ q ≤ p + 20 }) (⟨_, x⟩, ⟨_, ?_⟩); (try dsimp only); omega)
    | (refine r1K (α := Qu × { q : Nat // p ≤ q ∧ q ≤ p + 20 }) (⟨_, ⟨x.l, z.1⟩⟩, ⟨_, ?_⟩); (try dsimp only); omega)
    | (refine r1K (α := Qu × { q : Nat // p ≤ q ∧ q ≤ p + 20 }) (⟨_, ⟨zq.1.l, z.1⟩⟩, ⟨_, ?_⟩); (try dsimp only); omega)
    | trace_state
theorem c_l6Query_0 {g : Nat} {bv : Value} {bs : List UInt8} {p : Nat} {w0 : World} {K : List Ck} {v u : Value} {ns : List Nd} (w : World) (hw : KOk w0 (.box g 152 [bv, .int .i64 ((p : Nat) : Int)] :: K) w) (hb : RdIn w0 K bv bs := by exact rdI) (hn : RdIn w0 K v ns := by exact rdI) (hu : u.oneCell' = true) (h1 : ns.length = 0) (hp : p ≤ 99999900 := by omega) :
    Calls Tryz.prog 72 #[.pointer (some ⟨g, 0, none⟩), .agg #[v, u]] w (RetK (fun z : Qu × { q : Nat // p ≤ q ∧ q ≤ p + 20 } => .agg #[.int .i64 z.1.k, .int .i64 z.1.n.l, .int .i64 z.1.n.n]) (fun z => .box g 152 [bv, .int .i64 ((z.2.1 : Nat) : Int)] :: K) w0) := by
  have m1 := (hn w hw.drop).le
  have o1 := (hn w hw.drop).one
  simp only [maxLen] at m1
  refine enterK (args := _) hw Tryz.func72 rfl Tryz.ntmps72 (by simp) ?_
  repeat' (first | refine E.st ?_ | refine E.al (fun g5 => ?_) | refine E.sk ?_ | refine E.ckq (h := fun w hw => c_l2Node w hw) (k := fun zq => ?_) | refine E.ckq (h := fun w hw => c_num w hw (xs := [1, 2, 3, 4, 2, 1])) (k := fun z => ?_) | refine E.ckq (h := fun w hw => c_num w hw (xs := [0, 5, -1, 3])) (k := fun z => ?_) | refine E.ckq (h := fun w hw => c_num w hw (xs := [-1, 41])) (k := fun z => ?_) | refine E.ckq (h := fun w hw => c_pick w hw) (k := fun z => ?_) | refine E.q3 ?_ | refine E.q ?_ | refine E.qs ?_ | refine E.q2 ?_ | refine E.q4 ?_ | refine E.tr ?_ | refine E.ap (fun _ _ => ?_) | refine E.b1 (fun _ _ => ?_) | refine E.b0 (fun _ _ => ?_) | refine E.bsn (fun _ _ => ?_) | refine E.mk (fun _ _ => ?_) | refine E.bxO (fun _ => ?_) | refine E.al (fun _ => ?_) | refine E.sbO ?_ | refine E.dq ?_ | refine E.ct ?_ | refine E.cf ?_ | refine E.cs (fun hh => ?_) (fun hh => ?_) | refine E.at_block_other rfl ?_)
  all_goals first
    | (refine r1K (α := Qu × { q : Nat // p ≤ q ∧ q ≤ p + 20 }) (⟨_, ⟨0, 0⟩⟩, ⟨_, ?_⟩); (try dsimp only); omega)
    | (refine r1K (α := Qu × { q : Nat // p ≤ q ∧ q ≤ p + 20 }) (⟨_, ⟨0, z.1⟩⟩, ⟨_, ?_⟩); (try dsimp only); omega)
    | (refine r1K (α := Qu × { q : Nat // p ≤ q ∧ q ≤ p + 20 }) (⟨_, zq.1⟩, ⟨_, ?_⟩); (try dsimp only); omega)
    | (refine r1K (α := Qu × { q : Nat // p ≤ q ∧ q ≤ p + 20 }) (⟨_, x⟩, ⟨_, ?_⟩); (try dsimp only); omega)
    | (refine r1K (α := Qu × { q : Nat // p ≤ q ∧ q ≤ p + 20 }) (⟨_, ⟨x.l, z.1⟩⟩, ⟨_, ?_⟩); (try dsimp only); omega)
    | (refine r1K (α := Qu × { q : Nat // p ≤ q ∧ q ≤ p + 20 }) (⟨_, ⟨zq.1.l, z.1⟩⟩, ⟨_, ?_⟩); (try dsimp only); omega)
    | (exfalso; simp_all; done)
    | trace_state
theorem c_l6Query {g : Nat} {bv : Value} {bs : List UInt8} {p : Nat} {w0 : World} {K : List Ck} {v u : Value} {ns : List Nd} (w : World) (hw : KOk w0 (.box g 152 [bv, .int .i64 ((p : Nat) : Int)] :: K) w) (hb : RdIn w0 K bv bs := by exact rdI) (hn : RdIn w0 K v ns := by exact rdI) (hu : u.oneCell' = true := by assumption) (hp : p ≤ 99999900 := by omega) :
    Calls Tryz.prog 72 #[.pointer (some ⟨g, 0, none⟩), .agg #[v, u]] w (RetK (fun z : Qu × { q : Nat // p ≤ q ∧ q ≤ p + 20 } => .agg #[.int .i64 z.1.k, .int .i64 z.1.n.l, .int .i64 z.1.n.n]) (fun z => .box g 152 [bv, .int .i64 ((z.2.1 : Nat) : Int)] :: K) w0) := by
  rcases Nat.eq_zero_or_pos ns.length with h1 | h1
  · exact c_l6Query_0 w hw hb hn hu h1 hp
  · exact c_l6Query_1 w hw hb hn hu h1 hp
end E
end Go.Proofs.YtpiiapoafmnhhaaGreat
/- The draws: graphs that are bent. -/
namespace Go.Proofs.YtpiiapoafmnhhaaGreat
namespace E
open Go Go.RowKit
set_option linter.unusedSimpArgs false
set_option linter.unusedVariables false
set_option maxHeartbeats 1000000
set_option maxRecDepth 10000
attribute [local irreducible] HC HL HQ HX HO At Y YV Opd Opds KnX Sl Ld Src GV RV Calls Code.wp eptr adr RdF ownF OneX HG LdC
def cutV (b : Bool) (v : Value) (n : Nat) : Value := if b = true then E.part v 2 1 n else v
def cutN (b : Bool) (ns : List Nd) : List Nd := if b = true then ns.drop 1 else ns
theorem putN_len (ns : List Nd) (n : Nd) : (putN ns n).length = ns.length + 1 := by
  unfold putN
  have := congrArg List.length (List.takeWhile_append_dropWhile (p := fun x => decide (cd x < cd n)) (l := ns))
  simp only [List.length_append, List.length_cons] at this ⊢
  omega
/-- What a bent graph is told by: its rows, whether the first node is cut off, where the draw stands. -/
abbrev BT (p : Nat) := { z : (V1 × V1) × Gr × Bool × Nat // z.2.1.ns.length ≤ 1010 ∧ z.2.1.es.length ≤ 1010 ∧ (z.2.2.1 = true → 0 < z.2.1.ns.length) ∧ p ≤ z.2.2.2 ∧ z.2.2.2 ≤ p + 20 }
end E
end Go.Proofs.YtpiiapoafmnhhaaGreat
/- The draws: graphs that are bent. -/
namespace Go.Proofs.YtpiiapoafmnhhaaGreat
namespace E
open Go Go.RowKit
set_option linter.unusedSimpArgs false
set_option linter.unusedVariables false
set_option maxHeartbeats 1000000
set_option maxRecDepth 10000
attribute [local irreducible] HC HL HQ HX HO At Y YV Opd Opds KnX Sl Ld Src GV RV Calls Code.wp eptr adr RdF ownF OneX HG LdC
theorem c_l2Bent_11 {g : Nat} {bv : Value} {bs : List UInt8} {p : Nat} {w0 : World} {K : List Ck} {v u : Value} {G : Gr} (w : World) (hw : KOk w0 (.box g 152 [bv, .int .i64 ((p : Nat) : Int)] :: K) w) (hb : RdIn w0 K bv bs := by exact rdI) (hn : RdIn w0 K v G.ns := by exact rdI) (he : RdIn w0 K u G.es := by exact rdI) (x0 : Nd) (hx0 : G.ns[0]? = some x0) (y0 : Eg) (hy0 : G.es[0]? = some y0) (hl1 : G.ns.length ≤ 1000) (hl2 : G.es.length ≤ 1000) (hp : p ≤ 99999900 := by omega) :
    Calls Tryz.prog 70 #[.pointer (some ⟨g, 0, none⟩), .agg #[v, u]] w (RetK (fun z : BT p => .agg #[cutV z.1.2.2.1 z.1.1.1.1 z.1.2.1.ns.length, z.1.1.2.1]) (fun z => ownF 32 z.1.1.1.1 z.1.2.1.ns :: ownF 84 z.1.1.2.1 z.1.2.1.es :: .box g 152 [bv, .int .i64 ((z.1.2.2.2 : Nat) : Int)] :: K) w0) := by
  have o1 := (hn w hw.drop).one
  have o2 := (he w hw.drop).one
  have h1 : 0 < G.ns.length := (List.getElem?_eq_some_iff.1 hx0).1
  have h2 : 0 < G.es.length := (List.getElem?_eq_some_iff.1 hy0).1
  refine enterK (args := _) hw Tryz.func70 rfl Tryz.ntmps70 (by simp) ?_
  repeat' (first | refine E.st ?_ | refine E.al (fun g5 => ?_) | refine E.cm (h := fun w hw => c_l2CopyS w (ns := G.ns) (es := G.es)) (k := fun z0 => ?_) | refine E.dxk [.box g5 45 [.slice z0.1.a z0.1.n z0.1.c, .slice z0.2.a z0.2.n z0.2.c]] 10 (i := 7) [0, 1, 2, 3, 5, 4, 6, 7, 8, 9, 10] ?_ | refine E.br2 (i := 4) (j := 6) ?_ ?_ | refine E.dxk [.box g5 45 [.slice z0.1.a z0.1.n z0.1.c, .slice z0.2.a z0.2.n z0.2.c]] 10 (i := 16) [0, 1, 2, 3, 5, 4, 6, 7, 8, 9, 10] ?_ | refine E.br2 (i := 4) (j := 6) ?_ ?_ | refine E.dxo (.slice z0.1.a z0.1.n z0.1.c) (i := 10) [0, 2, 1, 3, 4, 5, 6, 7, 8, 9] ?_ | refine E.dxo (.slice z0.2.a z0.2.n z0.2.c) (i := 19) [0, 2, 1, 3, 4, 5, 6, 7, 8, 9] ?_ | refine E.qp ?_ | refine E.qs (hy := a_load_aggM) ?_ | refine E.ckq (h := fun w hw => c_num w hw (xs := [-1, 41, 39])) (k := fun zn => ?_) | refine E.ckq (h := fun w hw => c_num w hw (xs := [0, 8, -1, 7])) (k := fun zn => ?_) | refine E.ckq (h := fun w hw => c_pick w hw (n := 60)) (k := fun z => ?_) | refine E.ckq (h := fun w hw => c_pick w hw) (k := fun zp => E.wx (get_lt (xs := G.ns) (k := zp.1) (by have := zp.2.1; omega)) (fun x hx => ?_)) | refine E.ckq (h := fun w hw => c_pick w hw) (k := fun zp => E.wx (get_lt (xs := G.es) (k := zp.1) (by have := zp.2.1; omega)) (fun x hx => ?_)) | refine E.q3 ?_ | refine E.q ?_ | refine E.qs ?_ | refine E.q2 ?_ | refine E.q4 ?_ | refine E.tr ?_ | refine E.ap (fun _ _ => ?_) | refine E.b1 (fun _ _ => ?_) | refine E.b0 (fun _ _ => ?_) | refine E.bsn (fun _ _ => ?_) | refine E.mk (fun _ _ => ?_) | refine E.bxO (fun _ => ?_) | refine E.al (fun _ => ?_) | refine E.sbO ?_ | refine E.dq ?_ | refine E.ct ?_ | refine E.cf ?_ | refine E.cs (fun hh => ?_) (fun hh => ?_) | refine E.at_block_other rfl ?_)
  any_goals (first
    | (exfalso; omega)
    | (refine r1K (α := BT p) ⟨((⟨(.slice z0.1.a z0.1.n z0.1.c), rfl⟩, ⟨(.slice z0.2.a z0.2.n z0.2.c), rfl⟩), G, false, _), ?_⟩ (hK := ksv); dsimp only; refine ⟨?_, ?_, ?_, ?_, ?_⟩ <;> first | omega | (simp only [List.length_set, List.length_append, List.length_singleton]; omega) | (intro _; omega) | (intro h; cases h; done) | (intro _; simp only [List.length_set]; omega))
    | (refine r1K (α := BT p) ⟨((⟨(.slice z0.1.a z0.1.n z0.1.c), rfl⟩, ⟨(.slice z0.2.a z0.2.n z0.2.c), rfl⟩), G, true, _), ?_⟩ (hK := ksv); dsimp only; refine ⟨?_, ?_, ?_, ?_, ?_⟩ <;> first | omega | (simp only [List.length_set, List.length_append, List.length_singleton]; omega) | (intro _; omega) | (intro h; cases h; done) | (intro _; simp only [List.length_set]; omega))
    | (refine r1K (α := BT p) ⟨((⟨(.slice z0.1.a z0.1.n z0.1.c), rfl⟩, ⟨(.slice z0.2.a z0.2.n z0.2.c), rfl⟩), ⟨G.ns.set zp.1 ⟨x.l, zn.1⟩, G.es⟩, false, _), ?_⟩ (hK := ksv); dsimp only; refine ⟨?_, ?_, ?_, ?_, ?_⟩ <;> first | omega | (simp only [List.length_set, List.length_append, List.length_singleton]; omega) | (intro _; omega) | (intro h; cases h; done) | (intro _; simp only [List.length_set]; omega))
    | (rename_i v9 h9; (refine r1K (α := BT p) ⟨((⟨v9, h9⟩, ⟨(.slice z0.2.a z0.2.n z0.2.c), rfl⟩), ⟨G.ns ++ [x0], G.es⟩, false, _), ?_⟩ (hK := ksv); dsimp only; refine ⟨?_, ?_, ?_, ?_, ?_⟩ <;> first | omega | (simp only [List.length_set, List.length_append, List.length_singleton]; omega) | (intro _; omega) | (intro h; cases h; done) | (intro _; simp only [List.length_set]; omega)))
    | (refine r1K (α := BT p) ⟨((⟨(.slice z0.1.a z0.1.n z0.1.c), rfl⟩, ⟨(.slice z0.2.a z0.2.n z0.2.c), rfl⟩), ⟨G.ns, G.es.set zp.1 ⟨zn.1, x.a, x.b⟩⟩, false, _), ?_⟩ (hK := ksv); dsimp only; refine ⟨?_, ?_, ?_, ?_, ?_⟩ <;> first | omega | (simp only [List.length_set, List.length_append, List.length_singleton]; omega) | (intro _; omega) | (intro h; cases h; done) | (intro _; simp only [List.length_set]; omega))
    | (rename_i v9 h9; (refine r1K (α := BT p) ⟨((⟨(.slice z0.1.a z0.1.n z0.1.c), rfl⟩, ⟨v9, h9⟩), ⟨G.ns, G.es ++ [y0]⟩, false, _), ?_⟩ (hK := ksv); dsimp only; refine ⟨?_, ?_, ?_, ?_, ?_⟩ <;> first | omega | (simp only [List.length_set, List.length_append, List.length_singleton]; omega) | (intro _; omega) | (intro h; cases h; done) | (intro _; simp only [List.length_set]; omega))))
  refine lq (fun s : Nat × V1 × List Nd => s.1 ≤ 6 ∧ s.2.2.length ≤ 1000 + s.1) (fun s => [(8, .pl (.int .i64 ((30 + s.1 : Nat) : Int)))]) (fun s => [.box g5 45 [s.2.1.1, .slice z0.2.a z0.2.n z0.2.c], ownF 32 s.2.1.1 s.2.2]) (fun s => 6 - s.1) (0, ⟨.slice z0.1.a z0.1.n z0.1.c, rfl⟩, G.ns) ⟨by omega, by dsimp only; omega⟩ (fun s hs => ?_)
  obtain ⟨k, ⟨vN, hvN⟩, ms⟩ := s
  obtain ⟨hk, hms⟩ := hs
  dsimp only at hk hms hvN ⊢
  simp only [List.cons_append, List.nil_append]
  rcases Nat.lt_or_ge k 6 with hlt | hge
  · have hpl := putN_len ms ⟨5, ((30 + k : Nat) : Int)⟩
    repeat' (first | refine E.st ?_ | refine E.ckq (h := fun w hw => c_l2PutNode w hw (hu := by rfl)) (k := fun y => E.wy y.2 (fun hy => ?_)) | refine E.q3 ?_ | refine E.q ?_ | refine E.qs ?_ | refine E.q2 ?_ | refine E.q4 ?_ | refine E.tr ?_ | refine E.ap (fun _ _ => ?_) | refine E.b1 (fun _ _ => ?_) | refine E.b0 (fun _ _ => ?_) | refine E.bsn (fun _ _ => ?_) | refine E.mk (fun _ _ => ?_) | refine E.bxO (fun _ => ?_) | refine E.al (fun _ => ?_) | refine E.sbO ?_ | refine E.dq ?_ | refine E.ct ?_ | refine E.cf ?_ | refine E.cs (fun hh => ?_) (fun hh => ?_) | refine E.at_block_other rfl ?_)
    exact rd (α := Nat × V1 × List Nd) (k + 1, y, putN ms ⟨5, ((30 + k : Nat) : Int)⟩) ⟨by dsimp only; omega, by dsimp only; omega⟩ (by dsimp only; omega) (hK := ksv)
  · repeat' (first | refine E.st ?_ | refine E.q3 ?_ | refine E.q ?_ | refine E.qs ?_ | refine E.q2 ?_ | refine E.q4 ?_ | refine E.tr ?_ | refine E.ap (fun _ _ => ?_) | refine E.b1 (fun _ _ => ?_) | refine E.b0 (fun _ _ => ?_) | refine E.bsn (fun _ _ => ?_) | refine E.mk (fun _ _ => ?_) | refine E.bxO (fun _ => ?_) | refine E.al (fun _ => ?_) | refine E.sbO ?_ | refine E.dq ?_ | refine E.ct ?_ | refine E.cf ?_ | refine E.cs (fun hh => ?_) (fun hh => ?_) | refine E.at_block_other rfl ?_)
    refine r1K (α := BT p) ⟨((⟨vN, hvN⟩, ⟨.slice z0.2.a z0.2.n z0.2.c, rfl⟩), ⟨ms, G.es⟩, false, _), ?_⟩ (hK := ksv)
    dsimp only
    refine ⟨?_, ?_, ?_, ?_, ?_⟩ <;> first | omega | (intro h; cases h; done)
end E
end Go.Proofs.YtpiiapoafmnhhaaGreat
/- The draws: graphs that are bent. -/
namespace Go.Proofs.YtpiiapoafmnhhaaGreat
namespace E
open Go Go.RowKit
set_option linter.unusedSimpArgs false
set_option linter.unusedVariables false
set_option maxHeartbeats 1000000
set_option maxRecDepth 10000
attribute [local irreducible] HC HL HQ HX HO At Y YV Opd Opds KnX Sl Ld Src GV RV Calls Code.wp eptr adr RdF ownF OneX HG LdC
theorem c_l2Bent_10 {g : Nat} {bv : Value} {bs : List UInt8} {p : Nat} {w0 : World} {K : List Ck} {v u : Value} {G : Gr} (w : World) (hw : KOk w0 (.box g 152 [bv, .int .i64 ((p : Nat) : Int)] :: K) w) (hb : RdIn w0 K bv bs := by exact rdI) (hn : RdIn w0 K v G.ns := by exact rdI) (he : RdIn w0 K u G.es := by exact rdI) (x0 : Nd) (hx0 : G.ns[0]? = some x0) (h2 : G.es.length = 0) (hl1 : G.ns.length ≤ 1000) (hl2 : G.es.length ≤ 1000) (hp : p ≤ 99999900 := by omega) :
    Calls Tryz.prog 70 #[.pointer (some ⟨g, 0, none⟩), .agg #[v, u]] w (RetK (fun z : BT p => .agg #[cutV z.1.2.2.1 z.1.1.1.1 z.1.2.1.ns.length, z.1.1.2.1]) (fun z => ownF 32 z.1.1.1.1 z.1.2.1.ns :: ownF 84 z.1.1.2.1 z.1.2.1.es :: .box g 152 [bv, .int .i64 ((z.1.2.2.2 : Nat) : Int)] :: K) w0) := by
  have o1 := (hn w hw.drop).one
  have o2 := (he w hw.drop).one
  have h1 : 0 < G.ns.length := (List.getElem?_eq_some_iff.1 hx0).1
  refine enterK (args := _) hw Tryz.func70 rfl Tryz.ntmps70 (by simp) ?_
  repeat' (first | refine E.st ?_ | refine E.al (fun g5 => ?_) | refine E.cm (h := fun w hw => c_l2CopyS w (ns := G.ns) (es := G.es)) (k := fun z0 => ?_) | refine E.dxk [.box g5 45 [.slice z0.1.a z0.1.n z0.1.c, .slice z0.2.a z0.2.n z0.2.c]] 10 (i := 7) [0, 1, 2, 3, 5, 4, 6, 7, 8, 9, 10] ?_ | refine E.br2 (i := 4) (j := 6) ?_ ?_ | refine E.dxk [.box g5 45 [.slice z0.1.a z0.1.n z0.1.c, .slice z0.2.a z0.2.n z0.2.c]] 10 (i := 16) [0, 1, 2, 3, 5, 4, 6, 7, 8, 9, 10] ?_ | refine E.br2 (i := 4) (j := 6) ?_ ?_ | refine E.dxo (.slice z0.1.a z0.1.n z0.1.c) (i := 10) [0, 2, 1, 3, 4, 5, 6, 7, 8, 9] ?_ | refine E.dxo (.slice z0.2.a z0.2.n z0.2.c) (i := 19) [0, 2, 1, 3, 4, 5, 6, 7, 8, 9] ?_ | refine E.qp ?_ | refine E.qs (hy := a_load_aggM) ?_ | refine E.ckq (h := fun w hw => c_num w hw (xs := [-1, 41, 39])) (k := fun zn => ?_) | refine E.ckq (h := fun w hw => c_num w hw (xs := [0, 8, -1, 7])) (k := fun zn => ?_) | refine E.ckq (h := fun w hw => c_pick w hw (n := 60)) (k := fun z => ?_) | refine E.ckq (h := fun w hw => c_pick w hw) (k := fun zp => E.wx (get_lt (xs := G.ns) (k := zp.1) (by have := zp.2.1; omega)) (fun x hx => ?_)) | refine E.ckq (h := fun w hw => c_pick w hw) (k := fun zp => E.wx (get_lt (xs := G.es) (k := zp.1) (by have := zp.2.1; omega)) (fun x hx => ?_)) | refine E.q3 ?_ | refine E.q ?_ | refine E.qs ?_ | refine E.q2 ?_ | refine E.q4 ?_ | refine E.tr ?_ | refine E.ap (fun _ _ => ?_) | refine E.b1 (fun _ _ => ?_) | refine E.b0 (fun _ _ => ?_) | refine E.bsn (fun _ _ => ?_) | refine E.mk (fun _ _ => ?_) | refine E.bxO (fun _ => ?_) | refine E.al (fun _ => ?_) | refine E.sbO ?_ | refine E.dq ?_ | refine E.ct ?_ | refine E.cf ?_ | refine E.cs (fun hh => ?_) (fun hh => ?_) | refine E.at_block_other rfl ?_)
  any_goals (first
    | (exfalso; omega)
    | (refine r1K (α := BT p) ⟨((⟨(.slice z0.1.a z0.1.n z0.1.c), rfl⟩, ⟨(.slice z0.2.a z0.2.n z0.2.c), rfl⟩), G, false, _), ?_⟩ (hK := ksv); dsimp only; refine ⟨?_, ?_, ?_, ?_, ?_⟩ <;> first | omega | (simp only [List.length_set, List.length_append, List.length_singleton]; omega) | (intro _; omega) | (intro h; cases h; done) | (intro _; simp only [List.length_set]; omega))
    | (refine r1K (α := BT p) ⟨((⟨(.slice z0.1.a z0.1.n z0.1.c), rfl⟩, ⟨(.slice z0.2.a z0.2.n z0.2.c), rfl⟩), G, true, _), ?_⟩ (hK := ksv); dsimp only; refine ⟨?_, ?_, ?_, ?_, ?_⟩ <;> first | omega | (simp only [List.length_set, List.length_append, List.length_singleton]; omega) | (intro _; omega) | (intro h; cases h; done) | (intro _; simp only [List.length_set]; omega))
    | (refine r1K (α := BT p) ⟨((⟨(.slice z0.1.a z0.1.n z0.1.c), rfl⟩, ⟨(.slice z0.2.a z0.2.n z0.2.c), rfl⟩), ⟨G.ns.set zp.1 ⟨x.l, zn.1⟩, G.es⟩, false, _), ?_⟩ (hK := ksv); dsimp only; refine ⟨?_, ?_, ?_, ?_, ?_⟩ <;> first | omega | (simp only [List.length_set, List.length_append, List.length_singleton]; omega) | (intro _; omega) | (intro h; cases h; done) | (intro _; simp only [List.length_set]; omega))
    | (rename_i v9 h9; (refine r1K (α := BT p) ⟨((⟨v9, h9⟩, ⟨(.slice z0.2.a z0.2.n z0.2.c), rfl⟩), ⟨G.ns ++ [x0], G.es⟩, false, _), ?_⟩ (hK := ksv); dsimp only; refine ⟨?_, ?_, ?_, ?_, ?_⟩ <;> first | omega | (simp only [List.length_set, List.length_append, List.length_singleton]; omega) | (intro _; omega) | (intro h; cases h; done) | (intro _; simp only [List.length_set]; omega))))
  refine lq (fun s : Nat × V1 × List Nd => s.1 ≤ 6 ∧ s.2.2.length ≤ 1000 + s.1) (fun s => [(8, .pl (.int .i64 ((30 + s.1 : Nat) : Int)))]) (fun s => [.box g5 45 [s.2.1.1, .slice z0.2.a z0.2.n z0.2.c], ownF 32 s.2.1.1 s.2.2]) (fun s => 6 - s.1) (0, ⟨.slice z0.1.a z0.1.n z0.1.c, rfl⟩, G.ns) ⟨by omega, by dsimp only; omega⟩ (fun s hs => ?_)
  obtain ⟨k, ⟨vN, hvN⟩, ms⟩ := s
  obtain ⟨hk, hms⟩ := hs
  dsimp only at hk hms hvN ⊢
  simp only [List.cons_append, List.nil_append]
  rcases Nat.lt_or_ge k 6 with hlt | hge
  · have hpl := putN_len ms ⟨5, ((30 + k : Nat) : Int)⟩
    repeat' (first | refine E.st ?_ | refine E.ckq (h := fun w hw => c_l2PutNode w hw (hu := by rfl)) (k := fun y => E.wy y.2 (fun hy => ?_)) | refine E.q3 ?_ | refine E.q ?_ | refine E.qs ?_ | refine E.q2 ?_ | refine E.q4 ?_ | refine E.tr ?_ | refine E.ap (fun _ _ => ?_) | refine E.b1 (fun _ _ => ?_) | refine E.b0 (fun _ _ => ?_) | refine E.bsn (fun _ _ => ?_) | refine E.mk (fun _ _ => ?_) | refine E.bxO (fun _ => ?_) | refine E.al (fun _ => ?_) | refine E.sbO ?_ | refine E.dq ?_ | refine E.ct ?_ | refine E.cf ?_ | refine E.cs (fun hh => ?_) (fun hh => ?_) | refine E.at_block_other rfl ?_)
    exact rd (α := Nat × V1 × List Nd) (k + 1, y, putN ms ⟨5, ((30 + k : Nat) : Int)⟩) ⟨by dsimp only; omega, by dsimp only; omega⟩ (by dsimp only; omega) (hK := ksv)
  · repeat' (first | refine E.st ?_ | refine E.q3 ?_ | refine E.q ?_ | refine E.qs ?_ | refine E.q2 ?_ | refine E.q4 ?_ | refine E.tr ?_ | refine E.ap (fun _ _ => ?_) | refine E.b1 (fun _ _ => ?_) | refine E.b0 (fun _ _ => ?_) | refine E.bsn (fun _ _ => ?_) | refine E.mk (fun _ _ => ?_) | refine E.bxO (fun _ => ?_) | refine E.al (fun _ => ?_) | refine E.sbO ?_ | refine E.dq ?_ | refine E.ct ?_ | refine E.cf ?_ | refine E.cs (fun hh => ?_) (fun hh => ?_) | refine E.at_block_other rfl ?_)
    refine r1K (α := BT p) ⟨((⟨vN, hvN⟩, ⟨.slice z0.2.a z0.2.n z0.2.c, rfl⟩), ⟨ms, G.es⟩, false, _), ?_⟩ (hK := ksv)
    dsimp only
    refine ⟨?_, ?_, ?_, ?_, ?_⟩ <;> first | omega | (intro h; cases h; done)
end E
end Go.Proofs.YtpiiapoafmnhhaaGreat
/- The draws: graphs that are bent. -/
namespace Go.Proofs.YtpiiapoafmnhhaaGreat
namespace E
open Go Go.RowKit
set_option linter.unusedSimpArgs false
set_option linter.unusedVariables false
set_option maxHeartbeats 1000000
set_option maxRecDepth 10000
attribute [local irreducible] HC HL HQ HX HO At Y YV Opd Opds KnX Sl Ld Src GV RV Calls Code.wp eptr adr RdF ownF OneX HG LdC
theorem c_l2Bent_01 {g : Nat} {bv : Value} {bs : List UInt8} {p : Nat} {w0 : World} {K : List Ck} {v u : Value} {G : Gr} (w : World) (hw : KOk w0 (.box g 152 [bv, .int .i64 ((p : Nat) : Int)] :: K) w) (hb : RdIn w0 K bv bs := by exact rdI) (hn : RdIn w0 K v G.ns := by exact rdI) (he : RdIn w0 K u G.es := by exact rdI) (h1 : G.ns.length = 0) (y0 : Eg) (hy0 : G.es[0]? = some y0) (hl1 : G.ns.length ≤ 1000) (hl2 : G.es.length ≤ 1000) (hp : p ≤ 99999900 := by omega) :
    Calls Tryz.prog 70 #[.pointer (some ⟨g, 0, none⟩), .agg #[v, u]] w (RetK (fun z : BT p => .agg #[cutV z.1.2.2.1 z.1.1.1.1 z.1.2.1.ns.length, z.1.1.2.1]) (fun z => ownF 32 z.1.1.1.1 z.1.2.1.ns :: ownF 84 z.1.1.2.1 z.1.2.1.es :: .box g 152 [bv, .int .i64 ((z.1.2.2.2 : Nat) : Int)] :: K) w0) := by
  have o1 := (hn w hw.drop).one
  have o2 := (he w hw.drop).one
  have h2 : 0 < G.es.length := (List.getElem?_eq_some_iff.1 hy0).1
  refine enterK (args := _) hw Tryz.func70 rfl Tryz.ntmps70 (by simp) ?_
  repeat' (first | refine E.st ?_ | refine E.al (fun g5 => ?_) | refine E.cm (h := fun w hw => c_l2CopyS w (ns := G.ns) (es := G.es)) (k := fun z0 => ?_) | refine E.dxk [.box g5 45 [.slice z0.1.a z0.1.n z0.1.c, .slice z0.2.a z0.2.n z0.2.c]] 10 (i := 7) [0, 1, 2, 3, 5, 4, 6, 7, 8, 9, 10] ?_ | refine E.br2 (i := 4) (j := 6) ?_ ?_ | refine E.dxk [.box g5 45 [.slice z0.1.a z0.1.n z0.1.c, .slice z0.2.a z0.2.n z0.2.c]] 10 (i := 16) [0, 1, 2, 3, 5, 4, 6, 7, 8, 9, 10] ?_ | refine E.br2 (i := 4) (j := 6) ?_ ?_ | refine E.dxo (.slice z0.1.a z0.1.n z0.1.c) (i := 10) [0, 2, 1, 3, 4, 5, 6, 7, 8, 9] ?_ | refine E.dxo (.slice z0.2.a z0.2.n z0.2.c) (i := 19) [0, 2, 1, 3, 4, 5, 6, 7, 8, 9] ?_ | refine E.qp ?_ | refine E.qs (hy := a_load_aggM) ?_ | refine E.ckq (h := fun w hw => c_num w hw (xs := [-1, 41, 39])) (k := fun zn => ?_) | refine E.ckq (h := fun w hw => c_num w hw (xs := [0, 8, -1, 7])) (k := fun zn => ?_) | refine E.ckq (h := fun w hw => c_pick w hw (n := 60)) (k := fun z => ?_) | refine E.ckq (h := fun w hw => c_pick w hw) (k := fun zp => E.wx (get_lt (xs := G.ns) (k := zp.1) (by have := zp.2.1; omega)) (fun x hx => ?_)) | refine E.ckq (h := fun w hw => c_pick w hw) (k := fun zp => E.wx (get_lt (xs := G.es) (k := zp.1) (by have := zp.2.1; omega)) (fun x hx => ?_)) | refine E.q3 ?_ | refine E.q ?_ | refine E.qs ?_ | refine E.q2 ?_ | refine E.q4 ?_ | refine E.tr ?_ | refine E.ap (fun _ _ => ?_) | refine E.b1 (fun _ _ => ?_) | refine E.b0 (fun _ _ => ?_) | refine E.bsn (fun _ _ => ?_) | refine E.mk (fun _ _ => ?_) | refine E.bxO (fun _ => ?_) | refine E.al (fun _ => ?_) | refine E.sbO ?_ | refine E.dq ?_ | refine E.ct ?_ | refine E.cf ?_ | refine E.cs (fun hh => ?_) (fun hh => ?_) | refine E.at_block_other rfl ?_)
  any_goals (first
    | (exfalso; omega)
    | (refine r1K (α := BT p) ⟨((⟨(.slice z0.1.a z0.1.n z0.1.c), rfl⟩, ⟨(.slice z0.2.a z0.2.n z0.2.c), rfl⟩), G, false, _), ?_⟩ (hK := ksv); dsimp only; refine ⟨?_, ?_, ?_, ?_, ?_⟩ <;> first | omega | (simp only [List.length_set, List.length_append, List.length_singleton]; omega) | (intro _; omega) | (intro h; cases h; done) | (intro _; simp only [List.length_set]; omega))
    | (refine r1K (α := BT p) ⟨((⟨(.slice z0.1.a z0.1.n z0.1.c), rfl⟩, ⟨(.slice z0.2.a z0.2.n z0.2.c), rfl⟩), ⟨G.ns, G.es.set zp.1 ⟨zn.1, x.a, x.b⟩⟩, false, _), ?_⟩ (hK := ksv); dsimp only; refine ⟨?_, ?_, ?_, ?_, ?_⟩ <;> first | omega | (simp only [List.length_set, List.length_append, List.length_singleton]; omega) | (intro _; omega) | (intro h; cases h; done) | (intro _; simp only [List.length_set]; omega))
    | (rename_i v9 h9; (refine r1K (α := BT p) ⟨((⟨(.slice z0.1.a z0.1.n z0.1.c), rfl⟩, ⟨v9, h9⟩), ⟨G.ns, G.es ++ [y0]⟩, false, _), ?_⟩ (hK := ksv); dsimp only; refine ⟨?_, ?_, ?_, ?_, ?_⟩ <;> first | omega | (simp only [List.length_set, List.length_append, List.length_singleton]; omega) | (intro _; omega) | (intro h; cases h; done) | (intro _; simp only [List.length_set]; omega))))
  refine lq (fun s : Nat × V1 × List Nd => s.1 ≤ 6 ∧ s.2.2.length ≤ 1000 + s.1) (fun s => [(8, .pl (.int .i64 ((30 + s.1 : Nat) : Int)))]) (fun s => [.box g5 45 [s.2.1.1, .slice z0.2.a z0.2.n z0.2.c], ownF 32 s.2.1.1 s.2.2]) (fun s => 6 - s.1) (0, ⟨.slice z0.1.a z0.1.n z0.1.c, rfl⟩, G.ns) ⟨by omega, by dsimp only; omega⟩ (fun s hs => ?_)
  obtain ⟨k, ⟨vN, hvN⟩, ms⟩ := s
  obtain ⟨hk, hms⟩ := hs
  dsimp only at hk hms hvN ⊢
  simp only [List.cons_append, List.nil_append]
  rcases Nat.lt_or_ge k 6 with hlt | hge
  · have hpl := putN_len ms ⟨5, ((30 + k : Nat) : Int)⟩
    repeat' (first | refine E.st ?_ | refine E.ckq (h := fun w hw => c_l2PutNode w hw (hu := by rfl)) (k := fun y => E.wy y.2 (fun hy => ?_)) | refine E.q3 ?_ | refine E.q ?_ | refine E.qs ?_ | refine E.q2 ?_ | refine E.q4 ?_ | refine E.tr ?_ | refine E.ap (fun _ _ => ?_) | refine E.b1 (fun _ _ => ?_) | refine E.b0 (fun _ _ => ?_) | refine E.bsn (fun _ _ => ?_) | refine E.mk (fun _ _ => ?_) | refine E.bxO (fun _ => ?_) | refine E.al (fun _ => ?_) | refine E.sbO ?_ | refine E.dq ?_ | refine E.ct ?_ | refine E.cf ?_ | refine E.cs (fun hh => ?_) (fun hh => ?_) | refine E.at_block_other rfl ?_)
    exact rd (α := Nat × V1 × List Nd) (k + 1, y, putN ms ⟨5, ((30 + k : Nat) : Int)⟩) ⟨by dsimp only; omega, by dsimp only; omega⟩ (by dsimp only; omega) (hK := ksv)
  · repeat' (first | refine E.st ?_ | refine E.q3 ?_ | refine E.q ?_ | refine E.qs ?_ | refine E.q2 ?_ | refine E.q4 ?_ | refine E.tr ?_ | refine E.ap (fun _ _ => ?_) | refine E.b1 (fun _ _ => ?_) | refine E.b0 (fun _ _ => ?_) | refine E.bsn (fun _ _ => ?_) | refine E.mk (fun _ _ => ?_) | refine E.bxO (fun _ => ?_) | refine E.al (fun _ => ?_) | refine E.sbO ?_ | refine E.dq ?_ | refine E.ct ?_ | refine E.cf ?_ | refine E.cs (fun hh => ?_) (fun hh => ?_) | refine E.at_block_other rfl ?_)
    refine r1K (α := BT p) ⟨((⟨vN, hvN⟩, ⟨.slice z0.2.a z0.2.n z0.2.c, rfl⟩), ⟨ms, G.es⟩, false, _), ?_⟩ (hK := ksv)
    dsimp only
    refine ⟨?_, ?_, ?_, ?_, ?_⟩ <;> first | omega | (intro h; cases h; done)
end E
end Go.Proofs.YtpiiapoafmnhhaaGreat
