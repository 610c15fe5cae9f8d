/- The reference's reading of numbers. -/
import Derived.Test.YtlepiheoiinpnaaDoorTf
namespace Go.Proofs.YtlepiheoiinpnaaDoor
namespace E
open Go Go.RowKit
set_option linter.unusedSimpArgs false
set_option linter.unusedVariables false
set_option maxHeartbeats 1000000
set_option maxRecDepth 10000
attribute [local irreducible] HC HL HQ HX HO At Y YV Opd Opds KnX Sl Ld Src GV RV Calls Code.wp eptr adr RdF ownF OneX HG LdC
section
variable {N : Nat} {w0 : World} {K : List Ck} {F : List (Nat × En)} {c : Bool} {o : Oper}
variable {x : Operand} {t : TypeId} {ty : TypeId} {pos : String} {af : Array Edge} {gd : Option (Nat × Bool)} {dd : Option Tmp} {i : Int}
theorem a_negI [T : TInt Tryd.prog t .i64] (hx : Opd N F c x (.int .i64 i) := by first | exact Opd.pl rfl | exact Opd.gd rfl (fun h => h)) (hi : -9223372036854775807 ≤ i ∧ i ≤ 9223372036854775807 := by omega) : YV Tryd.prog N w0 K F c ⟨dd, .unOp .neg t x, ty, pos, af, gd⟩ (.int .i64 (-i)) := by
  unfold YV Opd at *
  intro a w ha hc hw
  have hw' : IntKind.i64.wrap (-i) = -i := wrap_i64_of ⟨by omega, by omega⟩
  simp [execOp, hx a ha hc, Op.unary, Op.intArith, run_underlying T.is, hw']
theorem y_eqS {s r : ByteArray} (h : YV Tryd.prog N w0 K F c o (.string s)) (e : s = r) : YV Tryd.prog N w0 K F c o (.string r) := by subst e; exact h
end
theorem hcf3 {P : Program} {N : Nat} {w0 : World} {K : List Ck} {F : List (Nat × En)} {Q : Exit → Act → World → Prop} {c : Code} (F' : List (Nat × En)) (h : HC P N w0 c Q F' K) (hF : FSub F F' := by exact fs) : HC P N w0 c Q F K := by
  unfold HC At at *
  exact fun a w ha hw => h a w (ha.less hF) hw
/-- No number is read where the digits are not the digits of one. -/
theorem NumP.no_mag {s : List UInt8} (h : ∀ n, n < 10 ^ 17 → magS s = Lib.decDigits n → negS s = true ∧ n = 0) : NumP s 0 false := NumP.no (fun y hy e => by
  obtain ⟨h1, h2⟩ := itoa_parts y
  rw [← e] at h1 h2
  obtain ⟨h3, h4⟩ := h y.natAbs hy h1
  exact h2 h3 (by omega))
theorem mag_neg (t : List UInt8) : magS (45 :: t) = t ∧ negS (45 :: t) = true := by simp [magS, negS]
theorem mag_pos {s : List UInt8} (h : s.head? ≠ some 45) : magS s = s ∧ negS s = false := by simp [magS, negS, h]
theorem digit_val {b : UInt8} (h1 : 48 ≤ b.toNat) (h2 : b.toNat ≤ 57) : Lib.digitVal b = some (b.toNat - 48) := by
  unfold Lib.digitVal; rw [if_pos ⟨h1, h2⟩]
theorem digit_bad {b : UInt8} (h : b.toNat < 48 ∨ 57 < b.toNat) : Lib.digitVal b = none := by
  unfold Lib.digitVal; rw [if_neg (by omega)]
theorem pow16 {k n : Nat} (hk : k ≤ 16) (hn : n < 10 ^ k) : n < 10000000000000000 := by
  have : 10 ^ k ≤ 10 ^ 16 := Nat.pow_le_pow_right (by omega) hk
  have e : (10 : Nat) ^ 16 = 10000000000000000 := by decide
  omega
theorem c_s_l9Num_neg {c : UInt8} {r : List UInt8} (w : World) (hlen : (45 :: c :: r).length ≤ 1048576) : Calls Tryd.prog 22 #[.string (tx (45 :: c :: r))] w (Ret (fun z : { p : Int × Bool // NumP (45 :: c :: r) p.1 p.2 } => .tuple #[.int .i64 z.1.1, .bool z.1.2]) (fun _ => []) w) := by
  have hsz : (tx (45 :: c :: r)).size = r.length + 2 := rfl
  have htz : (tx (c :: r)).size = r.length + 1 := rfl
  have htl : (c :: r).length = r.length + 1 := rfl
  have hlen' : r.length ≤ 1048576 := by simp only [List.length_cons] at hlen; omega
  have hext : (tx (45 :: c :: r)).extract 1 (tx (45 :: c :: r)).size = tx (c :: r) := by rw [tx_extract, tx_size, List.take_length]; rfl
  have h0 : (tx (45 :: c :: r))[(0 : Int).toNat]? = some 45 := rfl
  have h1 : (tx (c :: r))[(0 : Int).toNat]? = some c := rfl
  have h45 : (45 : UInt8).toNat = 45 := rfl
  have h48' : (48 : UInt8).toNat = 48 := rfl
  have hcz : c.toNat = 48 ↔ c = 48 := ⟨fun h => UInt8.toNat_inj.1 h, fun h => by rw [h]; rfl⟩

  -- the digits
  have hmag : magS (45 :: c :: r) = c :: r := (mag_neg _).1
  have hneg : negS (45 :: c :: r) = true := (mag_neg _).2
  rcases Nat.lt_or_ge 17 (c :: r).length with hl | hl
  · have hno : NumP (45 :: c :: r) 0 false := NumP.no_mag (fun n hn e => by
      rw [hmag] at e
      rw [e] at hl
      have := dec_len17 hn
      omega)
    refine enter (args := _) Tryd.func22 rfl Tryd.ntmps22 (by simp) ?_
    repeat' (first | refine E.st ?_ | refine E.q4 (hy := y_eqS (a_str_suf (n := 1) (hk := fun _ => ⟨rfl, by omega⟩)) hext) ?_ | refine E.q4 (hy := a_index_str (hb := fun _ => ⟨by omega, h0⟩)) ?_ | refine E.q4 (hy := a_index_str (hb := fun _ => ⟨by omega, h1⟩)) ?_ | refine E.q3 ?_ | refine E.q ?_ | refine E.qs ?_ | refine E.q2 ?_ | refine E.q4 ?_ | refine E.tr ?_ | refine E.ap (fun _ _ => ?_) | refine E.b1 (fun _ _ => ?_) | refine E.b0 (fun _ _ => ?_) | refine E.bsn (fun _ _ => ?_) | refine E.mk (fun _ _ => ?_) | refine E.bxO (fun _ => ?_) | refine E.al (fun _ => ?_) | refine E.sbO ?_ | refine E.dq ?_ | refine E.ct ?_ | refine E.cf ?_ | refine E.cs (fun hh => ?_) (fun hh => ?_) | refine E.at_block_other rfl ?_)
    all_goals first
      | exact rn (α := { p : Int × Bool // NumP (45 :: c :: r) p.1 p.2 }) ⟨(0, false), hno⟩
      | (exfalso; simp_all; done)
      | (exfalso; simp_all; omega)
  · by_cases hz : c = 48 ∧ True
    · have hno : NumP (45 :: c :: r) 0 false := NumP.no_mag (fun n hn e => by
        rw [hmag] at e
        obtain ⟨b, r', d, e1, _, e3⟩ := dec_head n
        rw [e1] at e
        injection e with e4 e5
        obtain ⟨e6, e7⟩ := e3 (by rw [← e4]; exact hz.1)
        exact ⟨hneg, e7⟩)
      obtain ⟨hc48, hz2⟩ := hz
      subst hc48
      
      refine enter (args := _) Tryd.func22 rfl Tryd.ntmps22 (by simp) ?_
      repeat' (first | refine E.st ?_ | refine E.q4 (hy := y_eqS (a_str_suf (n := 1) (hk := fun _ => ⟨rfl, by omega⟩)) hext) ?_ | refine E.q4 (hy := a_index_str (hb := fun _ => ⟨by omega, h0⟩)) ?_ | refine E.q4 (hy := a_index_str (hb := fun _ => ⟨by omega, h1⟩)) ?_ | refine E.q3 ?_ | refine E.q ?_ | refine E.qs ?_ | refine E.q2 ?_ | refine E.q4 ?_ | refine E.tr ?_ | refine E.ap (fun _ _ => ?_) | refine E.b1 (fun _ _ => ?_) | refine E.b0 (fun _ _ => ?_) | refine E.bsn (fun _ _ => ?_) | refine E.mk (fun _ _ => ?_) | refine E.bxO (fun _ => ?_) | refine E.al (fun _ => ?_) | refine E.sbO ?_ | refine E.dq ?_ | refine E.ct ?_ | refine E.cf ?_ | refine E.cs (fun hh => ?_) (fun hh => ?_) | refine E.at_block_other rfl ?_)
      all_goals first
        | exact rn (α := { p : Int × Bool // NumP (45 :: 48 :: r) p.1 p.2 }) ⟨(0, false), hno⟩
        | (exfalso; simp_all; done)
        | (exfalso; simp_all; omega)
    · have hz' : ¬ c.toNat = 48 := fun h => hz ⟨hcz.1 h, trivial⟩
      refine enter (args := _) Tryd.func22 rfl Tryd.ntmps22 (by simp) ?_
      repeat' (first | refine E.st ?_ | refine E.q4 (hy := y_eqS (a_str_suf (n := 1) (hk := fun _ => ⟨rfl, by omega⟩)) hext) ?_ | refine E.q4 (hy := a_index_str (hb := fun _ => ⟨by omega, h0⟩)) ?_ | refine E.q4 (hy := a_index_str (hb := fun _ => ⟨by omega, h1⟩)) ?_ | refine E.q3 ?_ | refine E.q ?_ | refine E.qs ?_ | refine E.q2 ?_ | refine E.q4 ?_ | refine E.tr ?_ | refine E.ap (fun _ _ => ?_) | refine E.b1 (fun _ _ => ?_) | refine E.b0 (fun _ _ => ?_) | refine E.bsn (fun _ _ => ?_) | refine E.mk (fun _ _ => ?_) | refine E.bxO (fun _ => ?_) | refine E.al (fun _ => ?_) | refine E.sbO ?_ | refine E.dq ?_ | refine E.ct ?_ | refine E.cf ?_ | refine E.cs (fun hh => ?_) (fun hh => ?_) | refine E.at_block_other rfl ?_)
      all_goals try (exfalso; omega)
      refine hcf3 [(6, .pl (.int .i64 0)), (5, .pl (.int .i64 0)), (4, .pl (.bool (decide (0 < ((tx (45 :: c :: r)).size : Int)) && decide (((45 : UInt8).toNat : Int) = 45)))), (0, .pl (.string (tx (c :: r))))] ?_
      refine lq (fun p : Nat × Nat => p.1 ≤ (c :: r).length ∧ Lib.decFrom 0 ((c :: r).take p.1) = some p.2 ∧ p.2 < 10 ^ p.1) (fun p => [(5, .pl (.int .i64 (p.2 : Int))), (6, .pl (.int .i64 (p.1 : Int)))]) (fun _ => []) (fun p => (c :: r).length - p.1) (0, 0) ⟨Nat.zero_le _, rfl, by simp⟩ (fun p hp => ?_)
      obtain ⟨k, n⟩ := p
      obtain ⟨hk, hd, hn⟩ := hp
      dsimp only at hk hd hn ⊢
      rcases Nat.lt_or_ge k (c :: r).length with hlt | hge
      · obtain ⟨b, hb⟩ := get_lt hlt
        have hb' := tx_get hb
        have hn16 := pow16 (by omega) hn
        rcases Nat.lt_or_ge b.toNat 48 with h48 | h48
        · have hno : NumP (45 :: c :: r) 0 false := NumP.no_mag (fun n hn e => absurd (hmag ▸ e) (decFrom_none_of hb (digit_bad (.inl h48)) n))
          repeat' (first | refine E.st ?_ | refine E.q4 (hy := a_index_str (hb := fun _ => ⟨by omega, hb'⟩)) ?_ | refine E.q3 ?_ | refine E.q ?_ | refine E.qs ?_ | refine E.q2 ?_ | refine E.q4 ?_ | refine E.tr ?_ | refine E.ap (fun _ _ => ?_) | refine E.b1 (fun _ _ => ?_) | refine E.b0 (fun _ _ => ?_) | refine E.bsn (fun _ _ => ?_) | refine E.mk (fun _ _ => ?_) | refine E.bxO (fun _ => ?_) | refine E.al (fun _ => ?_) | refine E.sbO ?_ | refine E.dq ?_ | refine E.ct ?_ | refine E.cf ?_ | refine E.cs (fun hh => ?_) (fun hh => ?_) | refine E.at_block_other rfl ?_)
          all_goals first
            | exact rn (α := { p : Int × Bool // NumP (45 :: c :: r) p.1 p.2 }) ⟨(0, false), hno⟩
            | (exfalso; simp_all; done)
            | (exfalso; simp_all; omega)
        · rcases Nat.lt_or_ge 57 b.toNat with h57 | h57
          · have hno : NumP (45 :: c :: r) 0 false := NumP.no_mag (fun n hn e => absurd (hmag ▸ e) (decFrom_none_of hb (digit_bad (.inr h57)) n))
            repeat' (first | refine E.st ?_ | refine E.q4 (hy := a_index_str (hb := fun _ => ⟨by omega, hb'⟩)) ?_ | refine E.q3 ?_ | refine E.q ?_ | refine E.qs ?_ | refine E.q2 ?_ | refine E.q4 ?_ | refine E.tr ?_ | refine E.ap (fun _ _ => ?_) | refine E.b1 (fun _ _ => ?_) | refine E.b0 (fun _ _ => ?_) | refine E.bsn (fun _ _ => ?_) | refine E.mk (fun _ _ => ?_) | refine E.bxO (fun _ => ?_) | refine E.al (fun _ => ?_) | refine E.sbO ?_ | refine E.dq ?_ | refine E.ct ?_ | refine E.cf ?_ | refine E.cs (fun hh => ?_) (fun hh => ?_) | refine E.at_block_other rfl ?_)
            all_goals first
              | exact rn (α := { p : Int × Bool // NumP (45 :: c :: r) p.1 p.2 }) ⟨(0, false), hno⟩
              | (exfalso; simp_all; done)
              | (exfalso; simp_all; omega)
          · have hst := Lib.decFrom_take (c :: r) k 0 n b (b.toNat - 48) hd hb (digit_val h48 h57)
            have hw8 : IntKind.u8.wrap ((b.toNat : Int) - 48) = (b.toNat : Int) - 48 := by
              have : IntKind.u8.wrap ((b.toNat : Int) - 48) = ((b.toNat : Int) - 48) % 256 := by unfold IntKind.wrap; rfl
              rw [this]; omega
            have hw : IntKind.i64.wrap ((b.toNat : Int) - 48) = (b.toNat : Int) - 48 := wrap_i64_of ⟨by omega, by omega⟩
            repeat' (first | refine E.st ?_ | refine E.q4 (hy := a_index_str (hb := fun _ => ⟨by omega, hb'⟩)) ?_ | refine E.q3 ?_ | refine E.q ?_ | refine E.qs ?_ | refine E.q2 ?_ | refine E.q4 ?_ | refine E.tr ?_ | refine E.ap (fun _ _ => ?_) | refine E.b1 (fun _ _ => ?_) | refine E.b0 (fun _ _ => ?_) | refine E.bsn (fun _ _ => ?_) | refine E.mk (fun _ _ => ?_) | refine E.bxO (fun _ => ?_) | refine E.al (fun _ => ?_) | refine E.sbO ?_ | refine E.dq ?_ | refine E.ct ?_ | refine E.cf ?_ | refine E.cs (fun hh => ?_) (fun hh => ?_) | refine E.at_block_other rfl ?_)
            all_goals try (exfalso; simp_all; omega)
            have e : IntKind.i64.wrap ((n : Int) * 10 + IntKind.i64.wrap (IntKind.u8.wrap ((b.toNat : Int) - 48))) = ((n * 10 + (b.toNat - 48) : Nat) : Int) := by
              rw [hw8, hw, wrap_i64_of ⟨by omega, by omega⟩]; omega
            rw [e]
            refine rd (k + 1, n * 10 + (b.toNat - 48)) ⟨by dsimp only; omega, hst, by dsimp only; rw [Nat.pow_succ]; omega⟩ (by dsimp only; omega)
      · have hk' : k = (c :: r).length := by omega
        subst hk'
        rw [List.take_length] at hd
        have hdn : Lib.decNat (c :: r) = some n := by simpa [Lib.decNat] using hd
        have hdd : c :: r = Lib.decDigits n := dec_inv hdn (fun h => by
          exact absurd ⟨h, trivial⟩ hz)
        have h17 : n < 10 ^ 17 := dec_lt17 (by rw [← hdd]; omega)
        have hback := itoa_back (s := 45 :: c :: r) (n := n) (by rw [hmag]; exact hdd) (fun h0 e0 => by
          rw [e0] at hdd; have : Lib.decDigits 0 = [48] := Lib.decDigits_one (by omega); rw [this] at hdd; injection hdd with e1 _; exact hz ⟨e1, trivial⟩)
        rw [hneg] at hback
        have hyes : NumP (45 :: c :: r) (-(n : Int)) true := by
          rw [if_pos rfl] at hback
          rw [hback]
          exact NumP.yes (by omega)
        have h17' : n < 100000000000000000 := h17
        repeat' (first | refine E.st ?_ | refine E.q4 (hy := a_negI) ?_ | refine E.q4 (hy := a_index_str (hb := fun _ => ⟨by omega, hb'⟩)) ?_ | refine E.q3 ?_ | refine E.q ?_ | refine E.qs ?_ | refine E.q2 ?_ | refine E.q4 ?_ | refine E.tr ?_ | refine E.ap (fun _ _ => ?_) | refine E.b1 (fun _ _ => ?_) | refine E.b0 (fun _ _ => ?_) | refine E.bsn (fun _ _ => ?_) | refine E.mk (fun _ _ => ?_) | refine E.bxO (fun _ => ?_) | refine E.al (fun _ => ?_) | refine E.sbO ?_ | refine E.dq ?_ | refine E.ct ?_ | refine E.cf ?_ | refine E.cs (fun hh => ?_) (fun hh => ?_) | refine E.at_block_other rfl ?_)
        all_goals try (exfalso; simp_all; done)
        exact rn (α := { p : Int × Bool // NumP (45 :: c :: r) p.1 p.2 }) ⟨(-(n : Int), true), hyes⟩
theorem c_s_l9Num_pos {c : UInt8} {r : List UInt8} (w : World) (hlen : (c :: r).length ≤ 1048576) (hc : ¬ c = 45) : Calls Tryd.prog 22 #[.string (tx (c :: r))] w (Ret (fun z : { p : Int × Bool // NumP (c :: r) p.1 p.2 } => .tuple #[.int .i64 z.1.1, .bool z.1.2]) (fun _ => []) w) := by
  have hsz : (tx (c :: r)).size = r.length + 1 := rfl
  have htl : (c :: r).length = r.length + 1 := rfl
  have hlen' : r.length ≤ 1048576 := by simp only [List.length_cons] at hlen; omega
  have h0 : (tx (c :: r))[(0 : Int).toNat]? = some c := rfl
  have hcn : ¬ c.toNat = 45 := fun h => hc (UInt8.toNat_inj.1 h)
  have h48' : (48 : UInt8).toNat = 48 := rfl
  have hcz : c.toNat = 48 ↔ c = 48 := ⟨fun h => UInt8.toNat_inj.1 h, fun h => by rw [h]; rfl⟩

  -- the digits
  have hmag : magS (c :: r) = c :: r := (mag_pos (by simpa using hc)).1
  have hneg : negS (c :: r) = false := (mag_pos (by simpa using hc)).2
  rcases Nat.lt_or_ge 17 (c :: r).length with hl | hl
  · have hno : NumP (c :: r) 0 false := NumP.no_mag (fun n hn e => by
      rw [hmag] at e
      rw [e] at hl
      have := dec_len17 hn
      omega)
    refine enter (args := _) Tryd.func22 rfl Tryd.ntmps22 (by simp) ?_
    repeat' (first | refine E.st ?_ | refine E.q4 (hy := a_index_str (hb := fun _ => ⟨by omega, h0⟩)) ?_ | refine E.q3 ?_ | refine E.q ?_ | refine E.qs ?_ | refine E.q2 ?_ | refine E.q4 ?_ | refine E.tr ?_ | refine E.ap (fun _ _ => ?_) | refine E.b1 (fun _ _ => ?_) | refine E.b0 (fun _ _ => ?_) | refine E.bsn (fun _ _ => ?_) | refine E.mk (fun _ _ => ?_) | refine E.bxO (fun _ => ?_) | refine E.al (fun _ => ?_) | refine E.sbO ?_ | refine E.dq ?_ | refine E.ct ?_ | refine E.cf ?_ | refine E.cs (fun hh => ?_) (fun hh => ?_) | refine E.at_block_other rfl ?_)
    all_goals first
      | exact rn (α := { p : Int × Bool // NumP (c :: r) p.1 p.2 }) ⟨(0, false), hno⟩
      | (exfalso; simp_all; done)
      | (exfalso; simp_all; omega)
  · by_cases hz : c = 48 ∧ r ≠ []
    · have hno : NumP (c :: r) 0 false := NumP.no_mag (fun n hn e => by
        rw [hmag] at e
        obtain ⟨b, r', d, e1, _, e3⟩ := dec_head n
        rw [e1] at e
        injection e with e4 e5
        obtain ⟨e6, e7⟩ := e3 (by rw [← e4]; exact hz.1)
        exact absurd (e5.trans e6) hz.2)
      obtain ⟨hc48, hz2⟩ := hz
      subst hc48
      have hrl : 0 < r.length := List.length_pos_iff.2 hz2
      refine enter (args := _) Tryd.func22 rfl Tryd.ntmps22 (by simp) ?_
      repeat' (first | refine E.st ?_ | refine E.q4 (hy := a_index_str (hb := fun _ => ⟨by omega, h0⟩)) ?_ | refine E.q3 ?_ | refine E.q ?_ | refine E.qs ?_ | refine E.q2 ?_ | refine E.q4 ?_ | refine E.tr ?_ | refine E.ap (fun _ _ => ?_) | refine E.b1 (fun _ _ => ?_) | refine E.b0 (fun _ _ => ?_) | refine E.bsn (fun _ _ => ?_) | refine E.mk (fun _ _ => ?_) | refine E.bxO (fun _ => ?_) | refine E.al (fun _ => ?_) | refine E.sbO ?_ | refine E.dq ?_ | refine E.ct ?_ | refine E.cf ?_ | refine E.cs (fun hh => ?_) (fun hh => ?_) | refine E.at_block_other rfl ?_)
      all_goals first
        | exact rn (α := { p : Int × Bool // NumP (48 :: r) p.1 p.2 }) ⟨(0, false), hno⟩
        | (exfalso; simp_all; done)
        | (exfalso; simp_all; omega)
    · have hz' : ¬ (c.toNat = 48 ∧ 0 < r.length) := by
        rintro ⟨h, h2⟩; exact hz ⟨hcz.1 h, by first | trivial | exact List.length_pos_iff.1 h2⟩
      refine enter (args := _) Tryd.func22 rfl Tryd.ntmps22 (by simp) ?_
      repeat' (first | refine E.st ?_ | refine E.q4 (hy := a_index_str (hb := fun _ => ⟨by omega, h0⟩)) ?_ | refine E.q3 ?_ | refine E.q ?_ | refine E.qs ?_ | refine E.q2 ?_ | refine E.q4 ?_ | refine E.tr ?_ | refine E.ap (fun _ _ => ?_) | refine E.b1 (fun _ _ => ?_) | refine E.b0 (fun _ _ => ?_) | refine E.bsn (fun _ _ => ?_) | refine E.mk (fun _ _ => ?_) | refine E.bxO (fun _ => ?_) | refine E.al (fun _ => ?_) | refine E.sbO ?_ | refine E.dq ?_ | refine E.ct ?_ | refine E.cf ?_ | refine E.cs (fun hh => ?_) (fun hh => ?_) | refine E.at_block_other rfl ?_)
      all_goals try (exfalso; omega)
      refine hcf3 [(6, .pl (.int .i64 0)), (5, .pl (.int .i64 0)), (4, .pl (.bool (decide (0 < ((tx (c :: r)).size : Int)) && decide ((c.toNat : Int) = 45)))), (0, .pl (.string (tx (c :: r))))] ?_
      refine lq (fun p : Nat × Nat => p.1 ≤ (c :: r).length ∧ Lib.decFrom 0 ((c :: r).take p.1) = some p.2 ∧ p.2 < 10 ^ p.1) (fun p => [(5, .pl (.int .i64 (p.2 : Int))), (6, .pl (.int .i64 (p.1 : Int)))]) (fun _ => []) (fun p => (c :: r).length - p.1) (0, 0) ⟨Nat.zero_le _, rfl, by simp⟩ (fun p hp => ?_)
      obtain ⟨k, n⟩ := p
      obtain ⟨hk, hd, hn⟩ := hp
      dsimp only at hk hd hn ⊢
      rcases Nat.lt_or_ge k (c :: r).length with hlt | hge
      · obtain ⟨b, hb⟩ := get_lt hlt
        have hb' := tx_get hb
        have hn16 := pow16 (by omega) hn
        rcases Nat.lt_or_ge b.toNat 48 with h48 | h48
        · have hno : NumP (c :: r) 0 false := NumP.no_mag (fun n hn e => absurd (hmag ▸ e) (decFrom_none_of hb (digit_bad (.inl h48)) n))
          repeat' (first | refine E.st ?_ | refine E.q4 (hy := a_index_str (hb := fun _ => ⟨by omega, hb'⟩)) ?_ | refine E.q3 ?_ | refine E.q ?_ | refine E.qs ?_ | refine E.q2 ?_ | refine E.q4 ?_ | refine E.tr ?_ | refine E.ap (fun _ _ => ?_) | refine E.b1 (fun _ _ => ?_) | refine E.b0 (fun _ _ => ?_) | refine E.bsn (fun _ _ => ?_) | refine E.mk (fun _ _ => ?_) | refine E.bxO (fun _ => ?_) | refine E.al (fun _ => ?_) | refine E.sbO ?_ | refine E.dq ?_ | refine E.ct ?_ | refine E.cf ?_ | refine E.cs (fun hh => ?_) (fun hh => ?_) | refine E.at_block_other rfl ?_)
          all_goals first
            | exact rn (α := { p : Int × Bool // NumP (c :: r) p.1 p.2 }) ⟨(0, false), hno⟩
            | (exfalso; simp_all; done)
            | (exfalso; simp_all; omega)
        · rcases Nat.lt_or_ge 57 b.toNat with h57 | h57
          · have hno : NumP (c :: r) 0 false := NumP.no_mag (fun n hn e => absurd (hmag ▸ e) (decFrom_none_of hb (digit_bad (.inr h57)) n))
            repeat' (first | refine E.st ?_ | refine E.q4 (hy := a_index_str (hb := fun _ => ⟨by omega, hb'⟩)) ?_ | refine E.q3 ?_ | refine E.q ?_ | refine E.qs ?_ | refine E.q2 ?_ | refine E.q4 ?_ | refine E.tr ?_ | refine E.ap (fun _ _ => ?_) | refine E.b1 (fun _ _ => ?_) | refine E.b0 (fun _ _ => ?_) | refine E.bsn (fun _ _ => ?_) | refine E.mk (fun _ _ => ?_) | refine E.bxO (fun _ => ?_) | refine E.al (fun _ => ?_) | refine E.sbO ?_ | refine E.dq ?_ | refine E.ct ?_ | refine E.cf ?_ | refine E.cs (fun hh => ?_) (fun hh => ?_) | refine E.at_block_other rfl ?_)
            all_goals first
              | exact rn (α := { p : Int × Bool // NumP (c :: r) p.1 p.2 }) ⟨(0, false), hno⟩
              | (exfalso; simp_all; done)
              | (exfalso; simp_all; omega)
          · have hst := Lib.decFrom_take (c :: r) k 0 n b (b.toNat - 48) hd hb (digit_val h48 h57)
            have hw8 : IntKind.u8.wrap ((b.toNat : Int) - 48) = (b.toNat : Int) - 48 := by
              have : IntKind.u8.wrap ((b.toNat : Int) - 48) = ((b.toNat : Int) - 48) % 256 := by unfold IntKind.wrap; rfl
              rw [this]; omega
            have hw : IntKind.i64.wrap ((b.toNat : Int) - 48) = (b.toNat : Int) - 48 := wrap_i64_of ⟨by omega, by omega⟩
            repeat' (first | refine E.st ?_ | refine E.q4 (hy := a_index_str (hb := fun _ => ⟨by omega, hb'⟩)) ?_ | refine E.q3 ?_ | refine E.q ?_ | refine E.qs ?_ | refine E.q2 ?_ | refine E.q4 ?_ | refine E.tr ?_ | refine E.ap (fun _ _ => ?_) | refine E.b1 (fun _ _ => ?_) | refine E.b0 (fun _ _ => ?_) | refine E.bsn (fun _ _ => ?_) | refine E.mk (fun _ _ => ?_) | refine E.bxO (fun _ => ?_) | refine E.al (fun _ => ?_) | refine E.sbO ?_ | refine E.dq ?_ | refine E.ct ?_ | refine E.cf ?_ | refine E.cs (fun hh => ?_) (fun hh => ?_) | refine E.at_block_other rfl ?_)
            all_goals try (exfalso; simp_all; omega)
            have e : IntKind.i64.wrap ((n : Int) * 10 + IntKind.i64.wrap (IntKind.u8.wrap ((b.toNat : Int) - 48))) = ((n * 10 + (b.toNat - 48) : Nat) : Int) := by
              rw [hw8, hw, wrap_i64_of ⟨by omega, by omega⟩]; omega
            rw [e]
            refine rd (k + 1, n * 10 + (b.toNat - 48)) ⟨by dsimp only; omega, hst, by dsimp only; rw [Nat.pow_succ]; omega⟩ (by dsimp only; omega)
      · have hk' : k = (c :: r).length := by omega
        subst hk'
        rw [List.take_length] at hd
        have hdn : Lib.decNat (c :: r) = some n := by simpa [Lib.decNat] using hd
        have hdd : c :: r = Lib.decDigits n := dec_inv hdn (fun h => by
          exact Classical.byContradiction fun h2 => hz ⟨h, h2⟩)
        have h17 : n < 10 ^ 17 := dec_lt17 (by rw [← hdd]; omega)
        have hback := itoa_back (s := c :: r) (n := n) (by rw [hmag]; exact hdd) (fun h0 e0 => by
          rw [hneg] at h0; cases h0)
        rw [hneg] at hback
        have hyes : NumP (c :: r) ((n : Int)) true := by
          rw [if_neg (by decide)] at hback
          rw [hback]
          exact NumP.yes (by omega)
        have h17' : n < 100000000000000000 := h17
        repeat' (first | refine E.st ?_ | refine E.q4 (hy := a_index_str (hb := fun _ => ⟨by omega, hb'⟩)) ?_ | refine E.q3 ?_ | refine E.q ?_ | refine E.qs ?_ | refine E.q2 ?_ | refine E.q4 ?_ | refine E.tr ?_ | refine E.ap (fun _ _ => ?_) | refine E.b1 (fun _ _ => ?_) | refine E.b0 (fun _ _ => ?_) | refine E.bsn (fun _ _ => ?_) | refine E.mk (fun _ _ => ?_) | refine E.bxO (fun _ => ?_) | refine E.al (fun _ => ?_) | refine E.sbO ?_ | refine E.dq ?_ | refine E.ct ?_ | refine E.cf ?_ | refine E.cs (fun hh => ?_) (fun hh => ?_) | refine E.at_block_other rfl ?_)
        all_goals try (exfalso; simp_all; done)
        exact rn (α := { p : Int × Bool // NumP (c :: r) p.1 p.2 }) ⟨((n : Int), true), hyes⟩
theorem c_s_l9Num {s : List UInt8} (w : World) (hlen : s.length ≤ 1048576) : Calls Tryd.prog 22 #[.string (tx s)] w (Ret (fun z : { p : Int × Bool // NumP s p.1 p.2 } => .tuple #[.int .i64 z.1.1, .bool z.1.2]) (fun _ => []) w) := by
  match s, hlen with
  | [], hlen =>
    have hno : NumP [] 0 false := NumP.no (fun y hy e => by
      have := atoi_itoa y
      rw [← e] at this
      cases this)
    have h0 : (tx []).size = 0 := rfl
    refine enter (args := _) Tryd.func22 rfl Tryd.ntmps22 (by simp) ?_
    repeat' (first | refine E.st ?_ | refine E.q4 (hy := a_index_str (b := 0) (hb := fun h => by exfalso; simp [h0] at h)) ?_ | refine E.q3 ?_ | refine E.q ?_ | refine E.qs ?_ | refine E.q2 ?_ | refine E.q4 ?_ | refine E.tr ?_ | refine E.ap (fun _ _ => ?_) | refine E.b1 (fun _ _ => ?_) | refine E.b0 (fun _ _ => ?_) | refine E.bsn (fun _ _ => ?_) | refine E.mk (fun _ _ => ?_) | refine E.bxO (fun _ => ?_) | refine E.al (fun _ => ?_) | refine E.sbO ?_ | refine E.dq ?_ | refine E.ct ?_ | refine E.cf ?_ | refine E.cs (fun hh => ?_) (fun hh => ?_) | refine E.at_block_other rfl ?_)
    all_goals first
      | exact rn (α := { p : Int × Bool // NumP [] p.1 p.2 }) ⟨(0, false), hno⟩
      | (exfalso; simp_all; done)
  | [c], hlen =>
    by_cases hc : c = 45
    · subst hc
      have hno : NumP [45] 0 false := NumP.no (fun y hy e => by
        have := atoi_itoa y
        rw [← e] at this
        cases this)
      have hext : (tx [45]).extract 1 (tx [45]).size = tx [] := by rw [tx_extract, tx_size, List.take_length]; rfl
      have h0 : (tx []).size = 0 := rfl
      have h1 : (tx [45]).size = 1 := rfl
      have h2 : (tx [45])[(0 : Int).toNat]? = some 45 := rfl
      have h45 : (45 : UInt8).toNat = 45 := rfl
      refine enter (args := _) Tryd.func22 rfl Tryd.ntmps22 (by simp) ?_
      repeat' (first | refine E.st ?_ | refine E.q4 (hy := y_eqS (a_str_suf (n := 1) (hk := fun _ => ⟨rfl, by omega⟩)) hext) ?_ | refine E.q4 (hy := a_index_str (hb := fun _ => ⟨by omega, h2⟩)) ?_ | refine E.q4 (hy := a_index_str (b := 0) (hb := fun h => by exfalso; simp [h0] at h)) ?_ | refine E.q3 ?_ | refine E.q ?_ | refine E.qs ?_ | refine E.q2 ?_ | refine E.q4 ?_ | refine E.tr ?_ | refine E.ap (fun _ _ => ?_) | refine E.b1 (fun _ _ => ?_) | refine E.b0 (fun _ _ => ?_) | refine E.bsn (fun _ _ => ?_) | refine E.mk (fun _ _ => ?_) | refine E.bxO (fun _ => ?_) | refine E.al (fun _ => ?_) | refine E.sbO ?_ | refine E.dq ?_ | refine E.ct ?_ | refine E.cf ?_ | refine E.cs (fun hh => ?_) (fun hh => ?_) | refine E.at_block_other rfl ?_)
      all_goals first
        | exact rn (α := { p : Int × Bool // NumP [45] p.1 p.2 }) ⟨(0, false), hno⟩
        | (exfalso; simp_all; done)
    · exact c_s_l9Num_pos w hlen hc
  | c :: d :: r, hlen =>
    by_cases hc : c = 45
    · subst hc
      exact c_s_l9Num_neg w hlen
    · exact c_s_l9Num_pos w hlen hc
end E
end Go.Proofs.YtlepiheoiinpnaaDoor
