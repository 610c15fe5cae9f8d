/- A node as a text: the reference's making. -/
import Derived.Test.YtlepiheoiinpnaaDoorTa
namespace Go.Proofs.YtlepiheoiinpnaaDoor
namespace E
open Go Go.RowKit
set_option linter.unusedSimpArgs false
set_option linter.unusedVariables false
set_option maxHeartbeats 1000000
set_option maxRecDepth 10000
attribute [local irreducible] HC HL HQ HX HO At Y YV Opd Opds KnX Sl Ld Src GV RV Calls Code.wp eptr adr RdF ownF OneX HG LdC
instance : ElT Tryd.prog 5 UInt8 := ⟨trivial⟩
/-- The letters of a label ahead of the k-th. -/
def letz (l k : Nat) : List UInt8 := (List.range k).flatMap (fun j : Nat => if has (l : Int) (j : Int) = true then [UInt8.ofInt (97 + (j : Int))] else [])
theorem letz_succ (l k : Nat) : letz l (k + 1) = letz l k ++ if has (l : Int) (k : Int) = true then [UInt8.ofInt (97 + (k : Int))] else [] := by
  unfold letz
  rw [List.range_succ, List.flatMap_append]
  simp
theorem letz_len (l k : Nat) : (letz l k).length ≤ k := by
  induction k with
  | zero => simp [letz]
  | succ k ih =>
    rw [letz_succ, List.length_append]
    split <;> simp <;> omega
theorem lbt_letz {l : Nat} {s : List UInt8} (hs : lbt[l]? = some s) : s = if letz l 3 = [] then [45] else letz l 3 := by
  have hl : l < 8 := by have := (List.getElem?_eq_some_iff.1 hs).1; simpa [lbt] using this
  have h : ∀ l : Fin 8, lbt[l.1]? = some (if letz l.1 3 = [] then [45] else letz l.1 3) := by decide +kernel
  have := h ⟨l, hl⟩
  rw [hs] at this
  exact Option.some.inj this
theorem c_s_LabelText {l : Nat} {s : List UInt8} (w : World) (hs : lbt[l]? = some s) : Calls Tryd.prog 16 #[.int .i64 (l : Int)] w (Ret (fun _ : Unit => .string (tx s)) (fun _ => []) w) := by
  have hl : l < 8 := by have := (List.getElem?_eq_some_iff.1 hs).1; simpa [lbt] using this
  have hk : lok (l : Int) = true := by rw [lok_iff]; omega
  have hs' := lbt_letz hs
  subst hs'
  have c_hU : ∀ w, Calls Tryd.prog 32 #[.int .i64 (l : Int)] w (Ret (fun _ : Unit => .bool true) (fun _ => []) w) := fun w => by rw [← hk]; exact c_s_LabelOk w
  refine enter (args := _) Tryd.func16 rfl Tryd.ntmps16 (by simp) ?_
  repeat' (first | refine E.st ?_ | refine E.cl (h := fun _ w _ => c_hU w) (k := ?_)  | refine E.q3 ?_ | refine E.q ?_ | refine E.qs ?_ | refine E.q2 ?_ | refine E.q4 ?_ | refine E.tr ?_ | refine E.ap (fun _ _ => ?_) | refine E.b1 (fun _ _ => ?_) | refine E.b0 (fun _ _ => ?_) | refine E.bsn (fun _ _ => ?_) | refine E.mk (fun _ _ => ?_) | refine E.bxO (fun _ => ?_) | refine E.al (fun _ => ?_) | refine E.sbO ?_ | refine E.dq ?_ | refine E.ct ?_ | refine E.cf ?_ | refine E.cs (fun hh => ?_) (fun hh => ?_) | refine E.at_block_other rfl ?_)
  refine lq (fun p : Nat × ByteArray => p.1 ≤ 3 ∧ p.2 = tx (letz l p.1)) (fun p => [(3, .pl (.string p.2)), (4, .pl (.int .i64 (p.1 : Int)))]) (fun _ => []) (fun p => 3 - p.1) (0, ⟨#[]⟩) ⟨by omega, rfl⟩ (fun p hp => ?_)
  obtain ⟨k, u⟩ := p
  obtain ⟨hk3, hu⟩ := hp
  dsimp only at hk3 hu ⊢
  have hll := letz_len l k
  have hus : u.size ≤ 3 := by rw [hu, tx_size]; omega
  rcases Nat.lt_or_ge k 3 with hlt | hge
  · have hsu := letz_succ l k
    by_cases hh : has (l : Int) (k : Int) = true
    · rw [if_pos hh] at hsu
      repeat' (first | refine E.st ?_ | refine E.cl (h := fun _ w _ => c_s_l1Has w) (k := ?_) | refine E.q4 (hy := a_cat (hl := fun _ => by simp only [tx_size, List.length_cons, List.length_nil]; omega)) ?_ | refine E.q3 ?_ | refine E.q ?_ | refine E.qs ?_ | refine E.q2 ?_ | refine E.q4 ?_ | refine E.tr ?_ | refine E.ap (fun _ _ => ?_) | refine E.b1 (fun _ _ => ?_) | refine E.b0 (fun _ _ => ?_) | refine E.bsn (fun _ _ => ?_) | refine E.mk (fun _ _ => ?_) | refine E.bxO (fun _ => ?_) | refine E.al (fun _ => ?_) | refine E.sbO ?_ | refine E.dq ?_ | refine E.ct ?_ | refine E.cf ?_ | refine E.cs (fun hh => ?_) (fun hh => ?_) | refine E.at_block_other rfl ?_)
      all_goals first
        | (refine rd (k + 1, _) ⟨by dsimp only; omega, ?_⟩; dsimp only; rw [hsu, hu, tx_append]; done)
        | (exfalso; simp_all; done)
    · rw [if_neg hh, List.append_nil] at hsu
      repeat' (first | refine E.st ?_ | refine E.cl (h := fun _ w _ => c_s_l1Has w) (k := ?_)  | refine E.q3 ?_ | refine E.q ?_ | refine E.qs ?_ | refine E.q2 ?_ | refine E.q4 ?_ | refine E.tr ?_ | refine E.ap (fun _ _ => ?_) | refine E.b1 (fun _ _ => ?_) | refine E.b0 (fun _ _ => ?_) | refine E.bsn (fun _ _ => ?_) | refine E.mk (fun _ _ => ?_) | refine E.bxO (fun _ => ?_) | refine E.al (fun _ => ?_) | refine E.sbO ?_ | refine E.dq ?_ | refine E.ct ?_ | refine E.cf ?_ | refine E.cs (fun hh => ?_) (fun hh => ?_) | refine E.at_block_other rfl ?_)
      all_goals first
        | (refine rd (k + 1, _) ⟨by dsimp only; omega, ?_⟩; dsimp only; rw [hsu, hu]; done)
        | (exfalso; simp_all; done)
  · have hk3' : k = 3 := by omega
    subst hk3'
    subst hu
    by_cases h0 : letz l 3 = []
    · rw [if_pos h0]
      have e0 : tx (letz l 3) = ⟨#[]⟩ := by rw [h0]; rfl
      repeat' (first | refine E.st ?_ | refine E.q3 ?_ | refine E.q ?_ | refine E.qs ?_ | refine E.q2 ?_ | refine E.q4 ?_ | refine E.tr ?_ | refine E.ap (fun _ _ => ?_) | refine E.b1 (fun _ _ => ?_) | refine E.b0 (fun _ _ => ?_) | refine E.bsn (fun _ _ => ?_) | refine E.mk (fun _ _ => ?_) | refine E.bxO (fun _ => ?_) | refine E.al (fun _ => ?_) | refine E.sbO ?_ | refine E.dq ?_ | refine E.ct ?_ | refine E.cf ?_ | refine E.cs (fun hh => ?_) (fun hh => ?_) | refine E.at_block_other rfl ?_)
      all_goals first
        | exact r1 ()
        | (exfalso; simp_all; done)
    · rw [if_neg h0]
      have e0 : ¬ tx (letz l 3) = ⟨#[]⟩ := fun h => h0 (tx_inj.1 h)
      repeat' (first | refine E.st ?_ | refine E.q3 ?_ | refine E.q ?_ | refine E.qs ?_ | refine E.q2 ?_ | refine E.q4 ?_ | refine E.tr ?_ | refine E.ap (fun _ _ => ?_) | refine E.b1 (fun _ _ => ?_) | refine E.b0 (fun _ _ => ?_) | refine E.bsn (fun _ _ => ?_) | refine E.mk (fun _ _ => ?_) | refine E.bxO (fun _ => ?_) | refine E.al (fun _ => ?_) | refine E.sbO ?_ | refine E.dq ?_ | refine E.ct ?_ | refine E.cf ?_ | refine E.cs (fun hh => ?_) (fun hh => ?_) | refine E.at_block_other rfl ?_)
      all_goals first
        | exact r1 ()
        | (exfalso; simp_all; done)
/-- A small number's numeral. -/
theorem dec_step {n : Nat} (h : 9 < n) : Lib.decDigits n = Lib.decDigits (n / 10) ++ [UInt8.ofNat (48 + n % 10)] := by
  rw [Lib.decDigits, dif_neg (by omega)]
theorem dig8' (n : Nat) : UInt8.ofNat (48 + n % 10) = UInt8.ofInt (48 + ((n % 10 : Nat) : Int)) := by
  have h : n % 10 < 10 := Nat.mod_lt _ (by decide)
  generalize n % 10 = m at h ⊢
  have : ∀ m : Fin 10, UInt8.ofNat (48 + m.1) = UInt8.ofInt (48 + ((m.1 : Nat) : Int)) := by decide +kernel
  exact this ⟨m, h⟩
theorem c_s_l9Dec {n : Nat} (w : World) (hn : n ≤ 9223372036854775807) : Calls Tryd.prog 17 #[.int .i64 (n : Int)] w (Ret (fun _ : Unit => .string (tx (Lib.decDigits n))) (fun _ => []) w) := by
  refine enter (args := _) Tryd.func17 rfl Tryd.ntmps17 (by simp) ?_
  repeat' (first | refine E.st ?_ | refine E.q3 ?_ | refine E.q ?_ | refine E.qs ?_ | refine E.q2 ?_ | refine E.q4 ?_ | refine E.tr ?_ | refine E.ap (fun _ _ => ?_) | refine E.b1 (fun _ _ => ?_) | refine E.b0 (fun _ _ => ?_) | refine E.bsn (fun _ _ => ?_) | refine E.mk (fun _ _ => ?_) | refine E.bxO (fun _ => ?_) | refine E.al (fun _ => ?_) | refine E.sbO ?_ | refine E.dq ?_ | refine E.ct ?_ | refine E.cf ?_ | refine E.cs (fun hh => ?_) (fun hh => ?_) | refine E.at_block_other rfl ?_)
  refine lq (fun p : Nat × List UInt8 => p.1 ≤ n ∧ (p.2.length = 0 ∨ p.2.length + p.1 + 5 ≤ n) ∧ Lib.decDigits n = Lib.decDigits p.1 ++ p.2) (fun p => [(0, .pl (.int .i64 (p.1 : Int))), (3, .pl (.string (tx p.2)))]) (fun _ => []) (fun p => p.1) (n, []) ⟨Nat.le_refl _, by simp, by simp⟩ (fun p hp => ?_)
  obtain ⟨k, u⟩ := p
  obtain ⟨hkn, hul, hd⟩ := hp
  dsimp only at hkn hul hd ⊢
  rcases Nat.lt_or_ge 9 k with hlt | hge
  · have hst := dec_step hlt
    have e1 : (k : Int).tmod 10 = ((k % 10 : Nat) : Int) := rfl
    have e2 : IntKind.i64.wrap ((k : Int).tdiv 10) = ((k / 10 : Nat) : Int) := by
      have : (k : Int).tdiv 10 = ((k / 10 : Nat) : Int) := rfl
      rw [this]; exact wrap_i64_of ⟨by omega, by omega⟩
    repeat' (first | refine E.st ?_ | refine E.q4 (hy := a_cat (hl := fun _ => by simp only [tx_size, List.length_cons, List.length_nil]; omega)) ?_ | refine E.q3 ?_ | refine E.q ?_ | refine E.qs ?_ | refine E.q2 ?_ | refine E.q4 ?_ | refine E.tr ?_ | refine E.ap (fun _ _ => ?_) | refine E.b1 (fun _ _ => ?_) | refine E.b0 (fun _ _ => ?_) | refine E.bsn (fun _ _ => ?_) | refine E.mk (fun _ _ => ?_) | refine E.bxO (fun _ => ?_) | refine E.al (fun _ => ?_) | refine E.sbO ?_ | refine E.dq ?_ | refine E.ct ?_ | refine E.cf ?_ | refine E.cs (fun hh => ?_) (fun hh => ?_) | refine E.at_block_other rfl ?_)
    rw [e2, e1, ← dig8', tx_append]
    refine rd (k / 10, _) ⟨by dsimp only; omega, ?_, ?_⟩ (by dsimp only; omega)
    · dsimp only
      rw [List.length_append, List.length_singleton]
      omega
    · dsimp only
      rw [hd, hst, List.append_assoc]
  · have e1 : UInt8.ofInt (48 + (k : Int)) = UInt8.ofNat (48 + k) := by
      have : ∀ m : Fin 10, UInt8.ofInt (48 + ((m.1 : Nat) : Int)) = UInt8.ofNat (48 + m.1) := by decide +kernel
      exact this ⟨k, by omega⟩
    have e3 : Lib.decDigits n = UInt8.ofNat (48 + k) :: u := by
      rw [hd, Lib.decDigits, dif_pos (by omega)]; rfl
    repeat' (first | refine E.st ?_ | refine E.q4 (hy := a_cat (hl := fun _ => by simp only [tx_size, List.length_cons, List.length_nil]; omega)) ?_ | refine E.q3 ?_ | refine E.q ?_ | refine E.qs ?_ | refine E.q2 ?_ | refine E.q4 ?_ | refine E.tr ?_ | refine E.ap (fun _ _ => ?_) | refine E.b1 (fun _ _ => ?_) | refine E.b0 (fun _ _ => ?_) | refine E.bsn (fun _ _ => ?_) | refine E.mk (fun _ _ => ?_) | refine E.bxO (fun _ => ?_) | refine E.al (fun _ => ?_) | refine E.sbO ?_ | refine E.dq ?_ | refine E.ct ?_ | refine E.cf ?_ | refine E.cs (fun hh => ?_) (fun hh => ?_) | refine E.at_block_other rfl ?_)
    rw [tx_append, e1, e3]
    exact r1 ()
end E
end Go.Proofs.YtlepiheoiinpnaaDoor
