/- The draws: graphs that are bent. -/
import Derived.Test.YtjdagbicjhmeeaaJda
import Derived.Test.YtjdagbicjhmeeaaJx
namespace Go.Proofs.Ytjdagbicjhmeeaa
namespace E
open Go Go.RowKit
set_option linter.unusedSimpArgs false
set_option linter.unusedVariables false
set_option maxHeartbeats 1000000
set_option maxRecDepth 10000
attribute [local irreducible] HC HL HQ HX HO At Y YV Opd Opds KnX Sl Ld Src GV RV Calls Code.wp eptr adr RdF ownF OneX HG LdC
theorem c_l2Bent {g : Nat} {bv : Value} {bs : List UInt8} {p : Nat} {w0 : World} {K : List Ck} {v u : Value} {G : Gr} (w : World) (hw : KOk w0 (.box g 121 [bv, .int .i64 ((p : Nat) : Int)] :: K) w) (hb : RdIn w0 K bv bs := by exact rdI) (hn : RdIn w0 K v G.ns := by exact rdI) (he : RdIn w0 K u G.es := by exact rdI) (hl1 : G.ns.length ≤ 1000 := by omega) (hl2 : G.es.length ≤ 1000 := by omega) (hp : p ≤ 99999900 := by omega) :
    Calls Try.prog 59 #[.pointer (some ⟨g, 0, none⟩), .agg #[v, u]] w (RetK (fun z : BT p => .agg #[cutV z.1.2.2.1 z.1.1.1.1 z.1.2.1.ns.length, z.1.1.2.1]) (fun z => ownF 29 z.1.1.1.1 z.1.2.1.ns :: ownF 31 z.1.1.2.1 z.1.2.1.es :: .box g 121 [bv, .int .i64 ((z.1.2.2.2 : Nat) : Int)] :: K) w0) := by
  rcases Nat.eq_zero_or_pos G.ns.length with h1 | h1 <;> rcases Nat.eq_zero_or_pos G.es.length with h2 | h2
  · exact c_l2Bent_00 w hw hb hn he h1 h2 hl1 hl2 hp
  · obtain ⟨y0, hy0⟩ := get_lt h2
    exact c_l2Bent_01 w hw hb hn he h1 y0 hy0 hl1 hl2 hp
  · obtain ⟨x0, hx0⟩ := get_lt h1
    exact c_l2Bent_10 w hw hb hn he x0 hx0 h2 hl1 hl2 hp
  · obtain ⟨x0, hx0⟩ := get_lt h1
    obtain ⟨y0, hy0⟩ := get_lt h2
    exact c_l2Bent_11 w hw hb hn he x0 hx0 y0 hy0 hl1 hl2 hp
/-- What a bent graph reads as. -/
theorem cut_rd {w0 : World} {K : List Ck} {v : Value} {ns : List Nd} {b : Bool} (h : ownF 29 v ns ∈ K) (hb : b = true → 0 < ns.length) : RdIn w0 K (cutV b v ns.length) (cutN b ns) := fun w hw => by
  have hr : RdF w v ns := RdF.of_own h hw
  cases b with
  | true => exact hr.suf (i := 1) (hb rfl)
  | false => exact hr
theorem cut_one {v : Value} {n : Nat} {b : Bool} (h : v.oneCell' = true) (hs : ∃ A m c, v = .slice A m c) : (cutV b v n).oneCell' = true := by
  obtain ⟨A, m, c, rfl⟩ := hs
  cases b with
  | true => unfold cutV E.part; simp only [if_true]; split <;> rfl
  | false => exact h
end E
end Go.Proofs.Ytjdagbicjhmeeaa
/- The draw of a graph and of what is asked. -/
namespace Go.Proofs.Ytjdagbicjhmeeaa
namespace E
open Go Go.RowKit
set_option linter.unusedSimpArgs false
set_option linter.unusedVariables false
set_option maxHeartbeats 1000000
set_option maxRecDepth 10000
attribute [local irreducible] HC HL HQ HX HO At Y YV Opd Opds KnX Sl Ld Src GV RV Calls Code.wp eptr adr RdF ownF OneX HG LdC
def opv (v : Value) (xs : List UInt8) : Value := if xs.length ≤ 2000 then v else pre v (Int.toNat 2000)
theorem opv_rd {w : World} {v : Value} {xs : List UInt8} (hr : RdF w v xs) : RdF w (opv v xs) (xs.take 2000) := by
  unfold opv
  split
  · rename_i h
    rw [List.take_of_length_le h]
    exact hr
  · rename_i h
    exact hr.pre (by show 2000 ≤ _; omega)
theorem c_l9Open {v : Value} {xs : List UInt8} (w : World) (hr : RdF w v xs := by exact rdA) : Calls Try.prog 58 #[v] w (Ret (fun z : Nat => .pointer (some ⟨z, 0, none⟩)) (fun z => [.box z 121 [opv v xs, .int .i64 ((0 : Nat) : Int)]]) w) := by
  have o1 := hr.one
  have m1 := hr.le
  simp only [maxLen] at m1
  have o2 := (opv_rd hr).one
  unfold opv at o2 ⊢
  by_cases hl : xs.length ≤ 2000
  · rw [if_pos hl] at o2 ⊢
    refine enter (args := _) Try.func58 rfl Try.ntmps58 (by simp) ?_
    repeat' (first | refine E.st ?_ | refine E.q3 ?_ | refine E.q ?_ | refine E.qs ?_ | refine E.q2 ?_ | refine E.q4 ?_ | refine E.tr ?_ | refine E.ap (fun _ _ => ?_) | refine E.b1 (fun _ _ => ?_) | refine E.b0 (fun _ _ => ?_) | refine E.bsn (fun _ _ => ?_) | refine E.mk (fun _ _ => ?_) | refine E.bxO (fun _ => ?_) | refine E.al (fun _ => ?_) | refine E.sbO ?_ | refine E.dq ?_ | refine E.ct ?_ | refine E.cf ?_ | refine E.cs (fun hh => ?_) (fun hh => ?_) | refine E.at_block_other rfl ?_)
    exact r1 (α := Nat) _
  · rw [if_neg hl] at o2 ⊢
    refine enter (args := _) Try.func58 rfl Try.ntmps58 (by simp) ?_
    repeat' (first | refine E.st ?_ | refine E.q3 ?_ | refine E.q ?_ | refine E.qs ?_ | refine E.q2 ?_ | refine E.q4 ?_ | refine E.tr ?_ | refine E.ap (fun _ _ => ?_) | refine E.b1 (fun _ _ => ?_) | refine E.b0 (fun _ _ => ?_) | refine E.bsn (fun _ _ => ?_) | refine E.mk (fun _ _ => ?_) | refine E.bxO (fun _ => ?_) | refine E.al (fun _ => ?_) | refine E.sbO ?_ | refine E.dq ?_ | refine E.ct ?_ | refine E.cf ?_ | refine E.cs (fun hh => ?_) (fun hh => ?_) | refine E.at_block_other rfl ?_)
    exact r1 (α := Nat) _
theorem cut_one' {v : Value} {n : Nat} {b : Bool} (h : v.oneCell' = true) : (cutV b v n).oneCell' = true := by
  cases b with
  | false => exact h
  | true =>
    unfold cutV E.part
    simp only [if_true]
    split <;> first | rfl | exact h
abbrev DT := { z : (V1 × V1) × Gr × Bool × Qu // z.2.1.ns.length ≤ 1010 ∧ z.2.1.es.length ≤ 1010 ∧ (z.2.2.1 = true → 0 < z.2.1.ns.length) }
theorem c_DrawQueryAsk {v : Value} {xs : List UInt8} (w : World) (hr : RdF w v xs := by exact rdA) : Calls Try.prog 24 #[v] w (Ret (fun z : DT => .tuple #[.agg #[cutV z.1.2.2.1 z.1.1.1.1 z.1.2.1.ns.length, z.1.1.2.1], .agg #[.int .i64 z.1.2.2.2.k, .int .i64 z.1.2.2.2.n.l, .int .i64 z.1.2.2.2.n.n]]) (fun z => [ownF 29 z.1.1.1.1 z.1.2.1.ns, ownF 31 z.1.1.2.1 z.1.2.1.es]) w) := by
  have o1 := hr.one
  have hb := opv_rd hr
  refine enter (args := _) Try.func24 rfl Try.ntmps24 (by simp) ?_
  repeat' (first | refine E.st ?_ | refine E.al (fun g5 => ?_) | refine E.cm (h := fun w hw => c_l9Open w (hr.now hw)) (k := fun z => ?_) | refine E.ckq (h := fun w hw => c_l2Graph w hw) (k := fun z1 => E.wy z1.2.1.1.len (fun h1 => E.wy z1.2.1.2.len (fun h2 => E.wy z1.2.2 (fun h3 => E.wy z1.1.1.1.2 (fun h4 => E.wy z1.1.1.2.2 (fun h5 => ?_)))))) | refine E.ckq (h := fun w hw => c_l2Bent (G := z1.1.2.1) w hw) (k := fun z2 => E.wy z2.2 (fun h6 => E.wy (cut_one' (n := z2.1.2.1.ns.length) (b := z2.1.2.2.1) z2.1.1.1.2) (fun h7 => E.wy z2.1.1.2.2 (fun h8 => E.wy (cut_rd (List.mem_singleton.2 rfl) z2.2.2.2.1 : RdIn w [ownF 29 z2.1.1.1.1 z2.1.2.1.ns] (cutV z2.1.2.2.1 z2.1.1.1.1 z2.1.2.1.ns.length) (cutN z2.1.2.2.1 z2.1.2.1.ns)) (fun h9 => ?_))))) | refine E.dxk [.box g5 59 [cutV z2.1.2.2.1 z2.1.1.1.1 z2.1.2.1.ns.length, z2.1.1.2.1]] 5 (i := 3) [0, 1, 2, 3, 4, 5] ?_ | refine E.qp ?_ | refine E.ckq (h := fun w hw => c_l6Query w hw (ns := cutN z2.1.2.2.1 z2.1.2.1.ns)) (k := fun z3 => ?_) | refine E.q3 ?_ | refine E.q ?_ | refine E.qs ?_ | refine E.q2 ?_ | refine E.q4 ?_ | refine E.tr ?_ | refine E.ap (fun _ _ => ?_) | refine E.b1 (fun _ _ => ?_) | refine E.b0 (fun _ _ => ?_) | refine E.bsn (fun _ _ => ?_) | refine E.mk (fun _ _ => ?_) | refine E.bxO (fun _ => ?_) | refine E.al (fun _ => ?_) | refine E.sbO ?_ | refine E.dq ?_ | refine E.ct ?_ | refine E.cf ?_ | refine E.cs (fun hh => ?_) (fun hh => ?_) | refine E.at_block_other rfl ?_)
  exact rn (α := DT) ⟨(z2.1.1, z2.1.2.1, z2.1.2.2.1, z3.1), h6.1, h6.2.1, h6.2.2.1⟩ (hK := ksv)
end E
end Go.Proofs.Ytjdagbicjhmeeaa
