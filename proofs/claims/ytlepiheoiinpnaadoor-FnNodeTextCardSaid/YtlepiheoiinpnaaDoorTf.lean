/- Numbers read out of texts: both sides. -/
import Derived.Test.YtlepiheoiinpnaaDoorTe
import Derived.Lib.AtoiErrMem
import Derived.Lib.SmallJoins
namespace Go.Proofs.YtlepiheoiinpnaaDoor
namespace E
open Go Go.RowKit Go.Sort
set_option linter.unusedSimpArgs false
set_option linter.unusedVariables false
set_option maxHeartbeats 1000000
set_option maxRecDepth 10000
attribute [local irreducible] HC HL HQ HX HO At Y YV Opd Opds KnX Sl Ld Src GV RV Calls Code.wp eptr adr RdF ownF OneX HG LdC
/-- What is read of the other variables: the powers of ten; what ErrSyntax holds. -/
def Gl2 (w : World) : Prop := Glb w ∧ Lib.TabIs Tryd.prog w "internal/strconv.uint64pow10" .u64 Lib.pow10Tab ∧ ∃ ev, w.cell? ⟨3, 0, none⟩ = some ev ∧ (ev = .nilIface ∨ ∃ te pe, ev = .iface te pe)
theorem gPow : Tryd.prog.globalNamed "internal/strconv.uint64pow10" = some 2 := by kernel_rfl
theorem cellLt {w : World} {a : Addr} {v : Value} (h : w.cell? a = some v) : a.block < w.heap.size := by
  rcases Nat.lt_or_ge a.block w.heap.size with h1 | h1
  · exact h1
  · simp [World.cell?, Array.getElem?_eq_none h1] at h
theorem Gl2.now {w0 w : World} {K : List Ck} (h : Gl2 w0) (hw : KOk w0 K w) : Gl2 w := by
  obtain ⟨h1, h2, ev, h3, h4⟩ := h
  exact ⟨h1.now hw, Go.Joins.tab_stays gPow h2 hw.below (Nat.le_refl _), ev, by rw [hw.below.cell (show _ < w0.heap.size from cellLt h3)]; exact h3, h4⟩
theorem below_grow (w : World) (k : Nat) (os : Array Obj) : Below w.heap.size w (grow (w.drewN k) os) :=
  ⟨rfl, rfl, rfl, by simp [grow, World.drewN], fun j hj => by simp [grow, World.drewN, Array.getElem?_append_left hj]⟩
theorem c_Itoa {z : Int} (w : World) (h0 : -9223372036854775808 ≤ z) (h1 : z ≤ 9223372036854775807) (hg : Gl2 w) : Calls Tryd.prog 19 #[.int .i64 z] w (Ret (fun _ : Unit => .string (tx (Lib.itoa z))) (fun _ => []) w) :=
  (Tryd.strconv_Itoa z h0 h1 w hg.2.1).mono fun e W' h => by
    obtain ⟨rfl, k, os, rfl⟩ := h
    exact ⟨(), rfl, (KOk.start w).ext (below_grow w k os)⟩
theorem c_Atoi_ok {s : List UInt8} {v : Int} (w : World) (hl : s.length ≤ 18) (h : Lib.atoi s = some v) : Calls Tryd.prog 37 #[.string (tx s)] w (Ret (fun _ : Unit => .tuple #[.int .i64 v, .nilIface]) (fun _ => []) w) :=
  (Tryd.strconv_Atoi (tx s) v (by rw [tx_size]; omega) h w).mono fun e W' h => by
    obtain ⟨rfl, t, rfl⟩ := h
    exact ⟨(), rfl, (KOk.start w).ext (Lib.bytesWorld_below w _ t)⟩
theorem c_Atoi_no {s : List UInt8} (w : World) (hl : s.length ≤ 18) (h : Lib.atoi s = none) (hg : Gl2 w) : Calls Tryd.prog 37 #[.string (tx s)] w (Ret (fun n : Nat => .tuple #[.int .i64 0, .iface 77 (.pointer (some ⟨n, 0, none⟩))]) (fun _ => []) w) := by
  obtain ⟨_, _, ev, h3, h4⟩ := hg
  exact (Any.strconv_Atoi_syntax Tryd.laysC172 (tx s) (by rw [tx_size]; omega) (by show Lib.atoiAll s = _; rw [Lib.atoiAll_short s hl, h]; rfl) ev w h3 h4).mono fun e W' h => by
    obtain ⟨n, rfl, _, _, hb⟩ := h
    exact ⟨n, rfl, (KOk.start w).ext hb⟩
theorem c_Trim {s : List UInt8} (w : World) : Calls Tryd.prog 36 #[.string (tx s), .string ⟨#[45]⟩] w (Ret (fun _ : Unit => .string (tx (Lib.trimPrefix s [45]))) (fun _ => []) w) :=
  (Tryd.strings_TrimPrefix (tx s) ⟨#[45]⟩ w).mono fun e W' h => by
    obtain ⟨rfl, rfl⟩ := h
    exact ⟨(), rfl, KOk.start _⟩
section
variable {N : Nat} {w0 : World} {K : List Ck} {F : List (Nat × En)} {c : Bool} {dd : Option Tmp} {ty : TypeId} {pos : String} {af : Array Edge} {gd : Option (Nat × Bool)} {x : Operand} {t t' tt : TypeId} {p : Value}
theorem eqI0 (d : Nat) (w : World) : (Op.equalIn (d + 1) 54 .nilIface .nilIface).run Tryd.prog w = .ok true w := by
  simp [Op.equalIn, run_underlying Tryd.underlying54]
theorem eqI1 (d : Nat) (w : World) (tt : TypeId) (p : Value) : (Op.equalIn (d + 1) 54 (.iface tt p) .nilIface).run Tryd.prog w = .ok false w := by
  simp [Op.equalIn, run_underlying Tryd.underlying54]
theorem a_neq_err0 (h : Opd N F c x .nilIface := by first | exact Opd.pl rfl | exact Opd.gd rfl (fun h => h)) : YV Tryd.prog N w0 K F c ⟨dd, .binOp .neq 54 x (.const .nilIface) t', ty, pos, af, gd⟩ (.bool false) := by
  unfold YV Opd at *
  intro a w ha hc hw
  have hev : a.eval (.const .nilIface) = .nilIface := rfl
  have hi : (binOp .neq 54 .nilIface .nilIface).run Tryd.prog w = .ok (.bool false) w := by
    have := eqI0 9999 w
    simp only [binOp, Op.equal, Sem.run_bind, Op.maxDepth]
    rw [this]
    rfl
  simp [execOp, h a ha hc, hev, eqGuard_nil_constR, hi]
theorem a_neq_err1 (h : Opd N F c x (.iface tt p) := by first | exact Opd.pl rfl | exact Opd.gd rfl (fun h => h)) : YV Tryd.prog N w0 K F c ⟨dd, .binOp .neq 54 x (.const .nilIface) t', ty, pos, af, gd⟩ (.bool true) := by
  unfold YV Opd at *
  intro a w ha hc hw
  have hev : a.eval (.const .nilIface) = .nilIface := rfl
  have hi : (binOp .neq 54 (.iface tt p) .nilIface).run Tryd.prog w = .ok (.bool true) w := by
    have := eqI1 9999 w tt p
    simp only [binOp, Op.equal, Sem.run_bind, Op.maxDepth]
    rw [this]
    rfl
  have hg : (eqGuard .neq 54 x (.const .nilIface) (.iface tt p) .nilIface).run Tryd.prog w = .ok () w := by
    simp [eqGuard]
  simp [execOp, h a ha hc, hev, hg, hi]
end
theorem trim_itoa (y : Int) : Lib.trimPrefix (Lib.itoa y) [45] = Lib.decDigits y.natAbs := by
  unfold Lib.itoa
  split
  · simp [Lib.trimPrefix, Lib.hasPrefix]
  · rename_i h
    obtain ⟨b, r, d, e1, e2, _⟩ := dec_head y.toNat
    have hb := dec_digit (n := y.toNat) (b := b) (by rw [e1]; exact List.mem_cons_self)
    have h45 : (45 == b) = false := by
      apply beq_false_of_ne
      rintro rfl
      revert hb; decide
    have : y.toNat = y.natAbs := by omega
    rw [← this, e1]
    have h45' : ¬ 45 = b := fun e => by rw [e] at h45; simp at h45
    simp [Lib.trimPrefix, Lib.hasPrefix, h45']
theorem trim_len (s : List UInt8) : s.length ≤ (Lib.trimPrefix s [45]).length + 1 := by
  unfold Lib.trimPrefix
  split
  · simp; omega
  · omega
theorem c_i_numRead {s : List UInt8} (w : World) (hg : Gl2 w) : Calls Tryd.prog 25 #[.string (tx s)] w (Ret (fun z : { p : Int × Bool // NumP s p.1 p.2 } => .tuple #[.int .i64 z.1.1, .bool z.1.2]) (fun _ => []) w) := by
  have htl := trim_len s
  have hsz : (tx (Lib.trimPrefix s [45])).size = (Lib.trimPrefix s [45]).length := rfl
  by_cases hlen : 17 < (Lib.trimPrefix s [45]).length
  · refine enter (args := _) Tryd.func25 rfl Tryd.ntmps25 (by simp) ?_
    repeat' (first | refine E.st ?_ | refine E.cl (h := fun _ w _ => c_Trim w) (k := ?_)  | refine E.q3 ?_ | refine E.q ?_ | refine E.qs ?_ | refine E.q2 ?_ | refine E.q4 ?_ | refine E.tr ?_ | refine E.ap (fun _ _ => ?_) | refine E.b1 (fun _ _ => ?_) | refine E.b0 (fun _ _ => ?_) | refine E.bsn (fun _ _ => ?_) | refine E.mk (fun _ _ => ?_) | refine E.bxO (fun _ => ?_) | refine E.al (fun _ => ?_) | refine E.sbO ?_ | refine E.dq ?_ | refine E.ct ?_ | refine E.cf ?_ | refine E.cs (fun hh => ?_) (fun hh => ?_) | refine E.at_block_other rfl ?_)
    refine rn (α := { p : Int × Bool // NumP s p.1 p.2 }) ⟨(0, false), NumP.no (fun y hy e => ?_)⟩
    rw [e, trim_itoa] at hlen
    have := dec_len17 hy
    omega
  · cases hat : Lib.atoi s with
    | none =>
      refine enter (args := _) Tryd.func25 rfl Tryd.ntmps25 (by simp) ?_
      repeat' (first | refine E.st ?_ | refine E.cl (h := fun _ w _ => c_Trim w) (k := ?_) | refine E.cm (h := fun w hw => c_Atoi_no w (by omega) hat (hg.now hw)) (k := fun n => ?_) | refine E.q4 (hy := a_neq_err1) ?_ | refine E.cl (h := fun _ w hw => c_Itoa (z := 0) w (by decide) (by decide) (hg.now hw)) (k := ?_) | refine E.q3 ?_ | refine E.q ?_ | refine E.qs ?_ | refine E.q2 ?_ | refine E.q4 ?_ | refine E.tr ?_ | refine E.ap (fun _ _ => ?_) | refine E.b1 (fun _ _ => ?_) | refine E.b0 (fun _ _ => ?_) | refine E.bsn (fun _ _ => ?_) | refine E.mk (fun _ _ => ?_) | refine E.bxO (fun _ => ?_) | refine E.al (fun _ => ?_) | refine E.sbO ?_ | refine E.dq ?_ | refine E.ct ?_ | refine E.cf ?_ | refine E.cs (fun hh => ?_) (fun hh => ?_) | refine E.at_block_other rfl ?_)
      all_goals try (exfalso; simp_all; done)
      refine rn (α := { p : Int × Bool // NumP s p.1 p.2 }) ⟨(0, false), NumP.no (fun y hy e => ?_)⟩
      rw [e, atoi_itoa] at hat
      cases hat
    | some v =>
      have hb : -9223372036854775808 ≤ v ∧ v ≤ 9223372036854775807 := Lib.atoiAll_bounds (l := s) (by rw [Lib.atoiAll_short s (by omega), hat]; rfl)
      by_cases hi : Lib.itoa v = s
      · have hva : v.natAbs < 10 ^ 17 := by
          apply dec_lt17
          rw [← trim_itoa, hi]; omega
        have hti : tx (Lib.itoa v) = tx s := by rw [hi]
        refine enter (args := _) Tryd.func25 rfl Tryd.ntmps25 (by simp) ?_
        repeat' (first | refine E.st ?_ | refine E.cl (h := fun _ w _ => c_Trim w) (k := ?_) | refine E.cl (h := fun _ w hw => c_Atoi_ok w (by omega) hat) (k := ?_) | refine E.q4 (hy := a_neq_err0) ?_ | refine E.cl (h := fun _ w hw => c_Itoa w hb.1 hb.2 (hg.now hw)) (k := ?_) | refine E.q3 ?_ | refine E.q ?_ | refine E.qs ?_ | refine E.q2 ?_ | refine E.q4 ?_ | refine E.tr ?_ | refine E.ap (fun _ _ => ?_) | refine E.b1 (fun _ _ => ?_) | refine E.b0 (fun _ _ => ?_) | refine E.bsn (fun _ _ => ?_) | refine E.mk (fun _ _ => ?_) | refine E.bxO (fun _ => ?_) | refine E.al (fun _ => ?_) | refine E.sbO ?_ | refine E.dq ?_ | refine E.ct ?_ | refine E.cf ?_ | refine E.cs (fun hh => ?_) (fun hh => ?_) | refine E.at_block_other rfl ?_)
        all_goals first
          | exact rn (α := { p : Int × Bool // NumP s p.1 p.2 }) ⟨(v, true), by rw [← hi]; exact NumP.yes hva⟩
          | (exfalso; simp_all; done)
      · have hti : ¬ tx (Lib.itoa v) = tx s := fun h => hi (tx_inj.1 h)
        refine enter (args := _) Tryd.func25 rfl Tryd.ntmps25 (by simp) ?_
        repeat' (first | refine E.st ?_ | refine E.cl (h := fun _ w _ => c_Trim w) (k := ?_) | refine E.cl (h := fun _ w hw => c_Atoi_ok w (by omega) hat) (k := ?_) | refine E.q4 (hy := a_neq_err0) ?_ | refine E.cl (h := fun _ w hw => c_Itoa w hb.1 hb.2 (hg.now hw)) (k := ?_) | refine E.q3 ?_ | refine E.q ?_ | refine E.qs ?_ | refine E.q2 ?_ | refine E.q4 ?_ | refine E.tr ?_ | refine E.ap (fun _ _ => ?_) | refine E.b1 (fun _ _ => ?_) | refine E.b0 (fun _ _ => ?_) | refine E.bsn (fun _ _ => ?_) | refine E.mk (fun _ _ => ?_) | refine E.bxO (fun _ => ?_) | refine E.al (fun _ => ?_) | refine E.sbO ?_ | refine E.dq ?_ | refine E.ct ?_ | refine E.cf ?_ | refine E.cs (fun hh => ?_) (fun hh => ?_) | refine E.at_block_other rfl ?_)
        all_goals first
          | (refine rn (α := { p : Int × Bool // NumP s p.1 p.2 }) ⟨(0, false), NumP.no (fun y hy e => ?_)⟩
             rw [e, atoi_itoa] at hat
             exact hi (by rw [← Option.some.inj hat, e]))
          | (exfalso; simp_all; done)
/-! ### The reference's -/
theorem decFrom_none_of {l : List UInt8} {k : Nat} {b : UInt8} (h : l[k]? = some b) (hb : Lib.digitVal b = none) (n : Nat) : l ≠ Lib.decDigits n := fun e => by
  have hm : b ∈ Lib.decDigits n := by rw [← e]; exact List.mem_of_getElem? h
  have := dec_digit hm
  unfold Lib.digitVal at hb
  rw [if_pos this] at hb
  cases hb
/-- What stands behind the sign, and whether there is one. -/
def negS (s : List UInt8) : Bool := decide (s.head? = some 45)
def magS (s : List UInt8) : List UInt8 := if s.head? = some 45 then s.drop 1 else s
theorem itoa_parts (y : Int) : magS (Lib.itoa y) = Lib.decDigits y.natAbs ∧ (negS (Lib.itoa y) = true → y ≠ 0) := by
  unfold Lib.itoa
  split
  · rename_i h
    simp only [magS, negS, List.head?_cons, if_true, List.drop_succ_cons, List.drop_zero]
    exact ⟨trivial, fun _ => by omega⟩
  · rename_i h
    obtain ⟨b, r, d, e1, e2, _⟩ := dec_head y.toNat
    have hb := dec_digit (n := y.toNat) (b := b) (by rw [e1]; exact List.mem_cons_self)
    have h45 : ¬ b = 45 := by
      rintro rfl
      revert hb; decide
    have : y.toNat = y.natAbs := by omega
    rw [← this]
    refine ⟨?_, ?_⟩
    · unfold magS
      rw [e1]
      simp [h45]
    · unfold negS
      rw [e1]
      simp [h45]
theorem itoa_back {s : List UInt8} {n : Nat} (h : magS s = Lib.decDigits n) (hn : negS s = true → n ≠ 0) : s = Lib.itoa (if negS s = true then -(n : Int) else (n : Int)) := by
  unfold negS magS at *
  by_cases hh : s.head? = some 45
  · rw [if_pos hh] at h
    simp only [hh, decide_true, if_true] at hn ⊢
    have h0 := hn trivial
    unfold Lib.itoa
    rw [if_pos (by omega)]
    cases s with
    | nil => simp at hh
    | cons x t =>
      simp only [List.head?_cons, Option.some.injEq] at hh
      simp only [List.drop_succ_cons, List.drop_zero] at h
      rw [hh, h]
      congr 2
      omega
  · rw [if_neg hh] at h
    simp only [hh, decide_false, Bool.false_eq_true, if_false]
    unfold Lib.itoa
    rw [if_neg (by omega), h]
    rfl
end E
end Go.Proofs.YtlepiheoiinpnaaDoor
