/- The draws: graphs that are bent. -/
import Derived.Test.YtpiiapoafmnhhaaGreatM18
namespace Go.Proofs.YtpiiapoafmnhhaaGreat
namespace E
open Go Go.RowKit
set_option linter.unusedSimpArgs false
set_option linter.unusedVariables false
set_option maxHeartbeats 1000000
set_option maxRecDepth 10000
attribute [local irreducible] HC HL HQ HX HO At Y YV Opd Opds KnX Sl Ld Src GV RV Calls Code.wp eptr adr RdF ownF OneX HG LdC
theorem c_l2Bent_00 {g : Nat} {bv : Value} {bs : List UInt8} {p : Nat} {w0 : World} {K : List Ck} {v u : Value} {G : Gr} (w : World) (hw : KOk w0 (.box g 152 [bv, .int .i64 ((p : Nat) : Int)] :: K) w) (hb : RdIn w0 K bv bs := by exact rdI) (hn : RdIn w0 K v G.ns := by exact rdI) (he : RdIn w0 K u G.es := by exact rdI) (h1 : G.ns.length = 0) (h2 : G.es.length = 0) (hl1 : G.ns.length ≤ 1000) (hl2 : G.es.length ≤ 1000) (hp : p ≤ 99999900 := by omega) :
    Calls Tryz.prog 70 #[.pointer (some ⟨g, 0, none⟩), .agg #[v, u]] w (RetK (fun z : BT p => .agg #[cutV z.1.2.2.1 z.1.1.1.1 z.1.2.1.ns.length, z.1.1.2.1]) (fun z => ownF 32 z.1.1.1.1 z.1.2.1.ns :: ownF 84 z.1.1.2.1 z.1.2.1.es :: .box g 152 [bv, .int .i64 ((z.1.2.2.2 : Nat) : Int)] :: K) w0) := by
  have o1 := (hn w hw.drop).one
  have o2 := (he w hw.drop).one
  refine enterK (args := _) hw Tryz.func70 rfl Tryz.ntmps70 (by simp) ?_
  repeat' (first | refine E.st ?_ | refine E.al (fun g5 => ?_) | refine E.cm (h := fun w hw => c_l2CopyS w (ns := G.ns) (es := G.es)) (k := fun z0 => ?_) | refine E.dxk [.box g5 45 [.slice z0.1.a z0.1.n z0.1.c, .slice z0.2.a z0.2.n z0.2.c]] 10 (i := 7) [0, 1, 2, 3, 5, 4, 6, 7, 8, 9, 10] ?_ | refine E.br2 (i := 4) (j := 6) ?_ ?_ | refine E.dxk [.box g5 45 [.slice z0.1.a z0.1.n z0.1.c, .slice z0.2.a z0.2.n z0.2.c]] 10 (i := 16) [0, 1, 2, 3, 5, 4, 6, 7, 8, 9, 10] ?_ | refine E.br2 (i := 4) (j := 6) ?_ ?_ | refine E.dxo (.slice z0.1.a z0.1.n z0.1.c) (i := 10) [0, 2, 1, 3, 4, 5, 6, 7, 8, 9] ?_ | refine E.dxo (.slice z0.2.a z0.2.n z0.2.c) (i := 19) [0, 2, 1, 3, 4, 5, 6, 7, 8, 9] ?_ | refine E.qp ?_ | refine E.qs (hy := a_load_aggM) ?_ | refine E.ckq (h := fun w hw => c_num w hw (xs := [-1, 41, 39])) (k := fun zn => ?_) | refine E.ckq (h := fun w hw => c_num w hw (xs := [0, 8, -1, 7])) (k := fun zn => ?_) | refine E.ckq (h := fun w hw => c_pick w hw (n := 60)) (k := fun z => ?_) | refine E.ckq (h := fun w hw => c_pick w hw) (k := fun zp => E.wx (get_lt (xs := G.ns) (k := zp.1) (by have := zp.2.1; omega)) (fun x hx => ?_)) | refine E.ckq (h := fun w hw => c_pick w hw) (k := fun zp => E.wx (get_lt (xs := G.es) (k := zp.1) (by have := zp.2.1; omega)) (fun x hx => ?_)) | refine E.q3 ?_ | refine E.q ?_ | refine E.qs ?_ | refine E.q2 ?_ | refine E.q4 ?_ | refine E.tr ?_ | refine E.ap (fun _ _ => ?_) | refine E.b1 (fun _ _ => ?_) | refine E.b0 (fun _ _ => ?_) | refine E.bsn (fun _ _ => ?_) | refine E.mk (fun _ _ => ?_) | refine E.bxO (fun _ => ?_) | refine E.al (fun _ => ?_) | refine E.sbO ?_ | refine E.dq ?_ | refine E.ct ?_ | refine E.cf ?_ | refine E.cs (fun hh => ?_) (fun hh => ?_) | refine E.at_block_other rfl ?_)
  any_goals (first
    | (exfalso; omega)
    | (refine r1K (α := BT p) ⟨((⟨(.slice z0.1.a z0.1.n z0.1.c), rfl⟩, ⟨(.slice z0.2.a z0.2.n z0.2.c), rfl⟩), G, false, _), ?_⟩ (hK := ksv); dsimp only; refine ⟨?_, ?_, ?_, ?_, ?_⟩ <;> first | omega | (simp only [List.length_set, List.length_append, List.length_singleton]; omega) | (intro _; omega) | (intro h; cases h; done) | (intro _; simp only [List.length_set]; omega)))
  refine lq (fun s : Nat × V1 × List Nd => s.1 ≤ 6 ∧ s.2.2.length ≤ 1000 + s.1) (fun s => [(8, .pl (.int .i64 ((30 + s.1 : Nat) : Int)))]) (fun s => [.box g5 45 [s.2.1.1, .slice z0.2.a z0.2.n z0.2.c], ownF 32 s.2.1.1 s.2.2]) (fun s => 6 - s.1) (0, ⟨.slice z0.1.a z0.1.n z0.1.c, rfl⟩, G.ns) ⟨by omega, by dsimp only; omega⟩ (fun s hs => ?_)
  obtain ⟨k, ⟨vN, hvN⟩, ms⟩ := s
  obtain ⟨hk, hms⟩ := hs
  dsimp only at hk hms hvN ⊢
  simp only [List.cons_append, List.nil_append]
  rcases Nat.lt_or_ge k 6 with hlt | hge
  · have hpl := putN_len ms ⟨5, ((30 + k : Nat) : Int)⟩
    repeat' (first | refine E.st ?_ | refine E.ckq (h := fun w hw => c_l2PutNode w hw (hu := by rfl)) (k := fun y => E.wy y.2 (fun hy => ?_)) | refine E.q3 ?_ | refine E.q ?_ | refine E.qs ?_ | refine E.q2 ?_ | refine E.q4 ?_ | refine E.tr ?_ | refine E.ap (fun _ _ => ?_) | refine E.b1 (fun _ _ => ?_) | refine E.b0 (fun _ _ => ?_) | refine E.bsn (fun _ _ => ?_) | refine E.mk (fun _ _ => ?_) | refine E.bxO (fun _ => ?_) | refine E.al (fun _ => ?_) | refine E.sbO ?_ | refine E.dq ?_ | refine E.ct ?_ | refine E.cf ?_ | refine E.cs (fun hh => ?_) (fun hh => ?_) | refine E.at_block_other rfl ?_)
    exact rd (α := Nat × V1 × List Nd) (k + 1, y, putN ms ⟨5, ((30 + k : Nat) : Int)⟩) ⟨by dsimp only; omega, by dsimp only; omega⟩ (by dsimp only; omega) (hK := ksv)
  · repeat' (first | refine E.st ?_ | refine E.q3 ?_ | refine E.q ?_ | refine E.qs ?_ | refine E.q2 ?_ | refine E.q4 ?_ | refine E.tr ?_ | refine E.ap (fun _ _ => ?_) | refine E.b1 (fun _ _ => ?_) | refine E.b0 (fun _ _ => ?_) | refine E.bsn (fun _ _ => ?_) | refine E.mk (fun _ _ => ?_) | refine E.bxO (fun _ => ?_) | refine E.al (fun _ => ?_) | refine E.sbO ?_ | refine E.dq ?_ | refine E.ct ?_ | refine E.cf ?_ | refine E.cs (fun hh => ?_) (fun hh => ?_) | refine E.at_block_other rfl ?_)
    refine r1K (α := BT p) ⟨((⟨vN, hvN⟩, ⟨.slice z0.2.a z0.2.n z0.2.c, rfl⟩), ⟨ms, G.es⟩, false, _), ?_⟩ (hK := ksv)
    dsimp only
    refine ⟨?_, ?_, ?_, ?_, ?_⟩ <;> first | omega | (intro h; cases h; done)
end E
end Go.Proofs.YtpiiapoafmnhhaaGreat
/- The draws: graphs that are bent. -/
namespace Go.Proofs.YtpiiapoafmnhhaaGreat
namespace E
open Go Go.RowKit
set_option linter.unusedSimpArgs false
set_option linter.unusedVariables false
set_option maxHeartbeats 1000000
set_option maxRecDepth 10000
attribute [local irreducible] HC HL HQ HX HO At Y YV Opd Opds KnX Sl Ld Src GV RV Calls Code.wp eptr adr RdF ownF OneX HG LdC
theorem c_l2Bent {g : Nat} {bv : Value} {bs : List UInt8} {p : Nat} {w0 : World} {K : List Ck} {v u : Value} {G : Gr} (w : World) (hw : KOk w0 (.box g 152 [bv, .int .i64 ((p : Nat) : Int)] :: K) w) (hb : RdIn w0 K bv bs := by exact rdI) (hn : RdIn w0 K v G.ns := by exact rdI) (he : RdIn w0 K u G.es := by exact rdI) (hl1 : G.ns.length ≤ 1000 := by omega) (hl2 : G.es.length ≤ 1000 := by omega) (hp : p ≤ 99999900 := by omega) :
    Calls Tryz.prog 70 #[.pointer (some ⟨g, 0, none⟩), .agg #[v, u]] w (RetK (fun z : BT p => .agg #[cutV z.1.2.2.1 z.1.1.1.1 z.1.2.1.ns.length, z.1.1.2.1]) (fun z => ownF 32 z.1.1.1.1 z.1.2.1.ns :: ownF 84 z.1.1.2.1 z.1.2.1.es :: .box g 152 [bv, .int .i64 ((z.1.2.2.2 : Nat) : Int)] :: K) w0) := by
  rcases Nat.eq_zero_or_pos G.ns.length with h1 | h1 <;> rcases Nat.eq_zero_or_pos G.es.length with h2 | h2
  · exact c_l2Bent_00 w hw hb hn he h1 h2 hl1 hl2 hp
  · obtain ⟨y0, hy0⟩ := get_lt h2
    exact c_l2Bent_01 w hw hb hn he h1 y0 hy0 hl1 hl2 hp
  · obtain ⟨x0, hx0⟩ := get_lt h1
    exact c_l2Bent_10 w hw hb hn he x0 hx0 h2 hl1 hl2 hp
  · obtain ⟨x0, hx0⟩ := get_lt h1
    obtain ⟨y0, hy0⟩ := get_lt h2
    exact c_l2Bent_11 w hw hb hn he x0 hx0 y0 hy0 hl1 hl2 hp
/-- What a bent graph reads as. -/
theorem cut_rd {w0 : World} {K : List Ck} {v : Value} {ns : List Nd} {b : Bool} (h : ownF 32 v ns ∈ K) (hb : b = true → 0 < ns.length) : RdIn w0 K (cutV b v ns.length) (cutN b ns) := fun w hw => by
  have hr : RdF w v ns := RdF.of_own h hw
  cases b with
  | true => exact hr.suf (i := 1) (hb rfl)
  | false => exact hr
end E
end Go.Proofs.YtpiiapoafmnhhaaGreat
