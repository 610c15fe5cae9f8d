/- The draws: numbers, labels, nodes. -/
import Derived.Test.YtjdagbicjhmeeaaQg
import Derived.Test.YtjdagbicjhmeeaaU
namespace Go.Proofs.Ytjdagbicjhmeeaa
namespace E
open Go Go.RowKit
set_option linter.unusedSimpArgs false
set_option linter.unusedVariables false
set_option maxHeartbeats 1000000
set_option maxRecDepth 10000
attribute [local irreducible] HC HL HQ HX HO At Y YV Opd Opds KnX Sl Ld Src GV RV Calls Code.wp eptr adr RdF ownF OneX HG LdC
instance : ElT Try.prog 5 UInt8 := ⟨trivial⟩
theorem get_at {α : Type} {xs : List α} {i : Int} (h0 : 0 ≤ i) (h : i < xs.length) : ∃ x, xs[i.toNat]? = some x := get_lt (by omega)
theorem tmod_lt {a b : Int} (ha : 0 ≤ a) (hb : 0 < b) : 0 ≤ a.tmod b ∧ a.tmod b < b := ⟨Int.tmod_nonneg _ ha, Int.tmod_lt_of_pos _ hb⟩
theorem tdiv_le {a b : Int} (ha : 0 ≤ a) (hb : 0 < b) : 0 ≤ a.tdiv b ∧ a.tdiv b ≤ a := ⟨Int.tdiv_nonneg ha (by omega), by rw [Int.tdiv_eq_ediv_of_nonneg ha]; exact Int.ediv_le_self _ ha⟩
theorem u8_lt (x : UInt8) : 0 ≤ (x.toNat : Int) ∧ (x.toNat : Int) < 256 := ⟨by omega, by have := x.toNat_lt; omega⟩
theorem c_pick {g : Nat} {bv : Value} {bs : List UInt8} {p : Nat} {n : Int} {w0 : World} {K : List Ck} (w : World) (hw : KOk w0 (.box g 121 [bv, .int .i64 ((p : Nat) : Int)] :: K) w) (hb : RdIn w0 K bv bs := by exact rdI) (hp : p ≤ 1000000000 := by omega) :
    Calls Try.prog 91 #[.pointer (some ⟨g, 0, none⟩), .int .i64 n] w (RetK (fun z : {k : Nat // (1 ≤ n → (k : Int) < n) ∧ (n < 1 → k = 0)} => .int .i64 ((z.1 : Nat) : Int)) (fun _ => .box g 121 [bv, .int .i64 ((p + 1 : Nat) : Int)] :: K) w0) := by
  have hm := (hb w hw.drop).le
  simp only [maxLen] at hm
  have hone := (hb w hw.drop).one
  refine enterK (args := _) hw Try.func91 rfl Try.ntmps91 (by simp) ?_
  rcases Nat.eq_zero_or_pos bs.length with h0 | h0
  · repeat' (first | refine E.st ?_ | refine E.q3 ?_ | refine E.q ?_ | refine E.qs ?_ | refine E.q2 ?_ | refine E.tr ?_ | refine E.ap (fun _ _ => ?_) | refine E.b1 (fun _ _ => ?_) | refine E.b0 (fun _ _ => ?_) | refine E.bsn (fun _ _ => ?_) | refine E.mk (fun _ _ => ?_) | refine E.bx (fun _ => ?_) | refine E.al (fun _ => ?_) | refine E.sb ?_ | refine E.dq ?_ | refine E.ct ?_ | refine E.cf ?_ | refine E.cs (fun hh => ?_) (fun hh => ?_) | refine E.at_block_other rfl ?_)
    · exact r1K ⟨0, by omega, fun _ => rfl⟩ (hK := KSub.box pk (by simp) (SubL.ksub subl))
  by_cases hn : n < 1
  · repeat' (first | refine E.st ?_ | refine E.q3 ?_ | refine E.q ?_ | refine E.qs ?_ | refine E.q2 ?_ | refine E.tr ?_ | refine E.ap (fun _ _ => ?_) | refine E.b1 (fun _ _ => ?_) | refine E.b0 (fun _ _ => ?_) | refine E.bsn (fun _ _ => ?_) | refine E.mk (fun _ _ => ?_) | refine E.bx (fun _ => ?_) | refine E.al (fun _ => ?_) | refine E.sb ?_ | refine E.dq ?_ | refine E.ct ?_ | refine E.cf ?_ | refine E.cs (fun hh => ?_) (fun hh => ?_) | refine E.at_block_other rfl ?_)
    exact r1K ⟨0, by omega, fun _ => rfl⟩ (hK := KSub.box pk (by simp) (SubL.ksub subl))
  by_cases hk : p < bs.length
  · obtain ⟨x, hx⟩ := get_at (xs := bs) (i := (p : Int) + 1 - 1) (by omega) (by omega)
    have hx2 := u8_lt x
    have hxw : IntKind.i64.wrap (x.toNat : Int) = x.toNat := wrap_i64_of (by omega)
    have ht := tmod_lt (a := (x.toNat : Int)) (b := n) (by omega) (by omega)
    repeat' (first | refine E.st ?_ | refine E.q3 ?_ | refine E.q ?_ | refine E.qs ?_ | refine E.q2 ?_ | refine E.tr ?_ | refine E.ap (fun _ _ => ?_) | refine E.b1 (fun _ _ => ?_) | refine E.b0 (fun _ _ => ?_) | refine E.bsn (fun _ _ => ?_) | refine E.mk (fun _ _ => ?_) | refine E.bx (fun _ => ?_) | refine E.al (fun _ => ?_) | refine E.sb ?_ | refine E.dq ?_ | refine E.ct ?_ | refine E.cf ?_ | refine E.cs (fun hh => ?_) (fun hh => ?_) | refine E.at_block_other rfl ?_)
    refine r1K ⟨((x.toNat : Int).tmod n).toNat, by omega, by omega⟩ (hv := ?_) (hK := KSub.box pk (by simp) (SubL.ksub subl))
    simp only [hxw, Int.toNat_of_nonneg ht.1]
  · have hl : (0 : Int) < bs.length := by omega
    have t1 := tmod_lt (a := (p : Int) + 1 - 1) (b := (bs.length : Int)) (by omega) hl
    have t2 := tmod_lt (a := ((p : Int) + 1 - 1) * 7 + 3) (b := (bs.length : Int)) (by omega) hl
    have t3 := tdiv_le (a := (p : Int) + 1 - 1) (b := (bs.length : Int)) (by omega) hl
    obtain ⟨x, hx⟩ := get_at (xs := bs) t1.1 t1.2
    obtain ⟨y, hy⟩ := get_at (xs := bs) t2.1 t2.2
    have hx2 := u8_lt x
    have hy2 := u8_lt y
    have hxw : IntKind.i64.wrap (x.toNat : Int) = x.toNat := wrap_i64_of (by omega)
    have hyw : IntKind.i64.wrap (y.toNat : Int) = y.toNat := wrap_i64_of (by omega)
    repeat' (first | refine E.st ?_ | refine E.q3 ?_ | refine E.q ?_ | refine E.qs ?_ | refine E.q2 ?_ | refine E.tr ?_ | refine E.ap (fun _ _ => ?_) | refine E.b1 (fun _ _ => ?_) | refine E.b0 (fun _ _ => ?_) | refine E.bsn (fun _ _ => ?_) | refine E.mk (fun _ _ => ?_) | refine E.bx (fun _ => ?_) | refine E.al (fun _ => ?_) | refine E.sb ?_ | refine E.dq ?_ | refine E.ct ?_ | refine E.cf ?_ | refine E.cs (fun hh => ?_) (fun hh => ?_) | refine E.at_block_other rfl ?_)
    have e1 : IntKind.i64.wrap (IntKind.i64.wrap (((p : Int) + 1 - 1).tdiv (bs.length : Int)) * 53) = ((p : Int) + 1 - 1).tdiv (bs.length : Int) * 53 := by
      rw [wrap_i64_of (z := ((p : Int) + 1 - 1).tdiv (bs.length : Int)) (by omega), wrap_i64_of (by omega)]
    obtain ⟨X, hX⟩ : ∃ X : Int, IntKind.i64.wrap (IntKind.i64.wrap (x.toNat : Int) * 131 + IntKind.i64.wrap (y.toNat : Int) * 1117 + ((p : Int) + 1 - 1) * 29 + IntKind.i64.wrap (IntKind.i64.wrap (((p : Int) + 1 - 1).tdiv (bs.length : Int)) * 53)) = X := ⟨_, rfl⟩
    have hXb : 0 ≤ X ∧ X < 1000000000000 := by
      rw [hxw, hyw, e1, wrap_i64_of (by omega)] at hX
      omega
    have t4 := tdiv_le (a := X) (b := 64) hXb.1 (by omega)
    have e3 : IntKind.i64.wrap (X.tdiv 64) = X.tdiv 64 := wrap_i64_of (by omega)
    obtain ⟨v, hv, v0, v1⟩ := run_xor (P := Try.prog) (i := X) (j := IntKind.i64.wrap (X.tdiv 64)) (by omega) (by rw [e3]; omega)
    have ht := tmod_lt (a := v) (b := n) v0 (by omega)
    rw [hX]
    refine E.qy (hy := y_bits (Or.inr (Or.inr (Or.inl rfl))) (Opd.pl rfl) (Opd.pl rfl) hv) (hr := ?_)
    repeat' (first | refine E.st ?_ | refine E.q3 ?_ | refine E.q ?_ | refine E.qs ?_ | refine E.q2 ?_ | refine E.q4 ?_ | refine E.tr ?_ | refine E.ap (fun _ _ => ?_) | refine E.b1 (fun _ _ => ?_) | refine E.b0 (fun _ _ => ?_) | refine E.bsn (fun _ _ => ?_) | refine E.mk (fun _ _ => ?_) | refine E.bxO (fun _ => ?_) | refine E.al (fun _ => ?_) | refine E.sbO ?_ | refine E.dq ?_ | refine E.ct ?_ | refine E.cf ?_ | refine E.cs (fun hh => ?_) (fun hh => ?_) | refine E.at_block_other rfl ?_)
    refine r1K ⟨(v.tmod n).toNat, by omega, by omega⟩ (hv := ?_) (hK := KSub.box pk (by simp) (SubL.ksub subl))
    simp only [Int.toNat_of_nonneg ht.1]
end E
end Go.Proofs.Ytjdagbicjhmeeaa
