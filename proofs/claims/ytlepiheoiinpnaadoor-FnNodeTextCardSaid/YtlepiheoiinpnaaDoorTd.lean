/- Numerals, pieces of a text between dots, and the texts of nodes: plain facts. -/
import Derived.Test.YtlepiheoiinpnaaDoorTc
import Derived.Lib.AtoiTie
namespace Go.Proofs.YtlepiheoiinpnaaDoor
namespace E
open Go Go.RowKit
set_option linter.unusedSimpArgs false
set_option linter.unusedVariables false
/-! ### Numerals -/
theorem decFrom_append : ∀ (a b : List UInt8) (acc : Nat), Lib.decFrom acc (a ++ b) = (Lib.decFrom acc a).bind (fun n => Lib.decFrom n b)
  | [], b, acc => by simp [Lib.decFrom]
  | x :: a, b, acc => by
    simp only [List.cons_append, Lib.decFrom]
    cases Lib.digitVal x with
    | none => rfl
    | some d => exact decFrom_append a b _
theorem digitVal_ofNat {d : Nat} (h : d < 10) : Lib.digitVal (UInt8.ofNat (48 + d)) = some d := by
  have : ∀ d : Fin 10, Lib.digitVal (UInt8.ofNat (48 + d.1)) = some d.1 := by decide +kernel
  exact this ⟨d, h⟩
theorem digitVal_inv {b : UInt8} {d : Nat} (h : Lib.digitVal b = some d) : d < 10 ∧ b = UInt8.ofNat (48 + d) := by
  unfold Lib.digitVal at h
  split at h
  · rename_i hb
    simp only [Option.some.injEq] at h
    refine ⟨by omega, ?_⟩
    rw [← UInt8.toNat_inj, ← h]
    simp only [UInt8.toNat_ofNat']
    omega
  · cases h
theorem decFrom_dec (n : Nat) : ∀ acc, Lib.decFrom acc (Lib.decDigits n) = some (acc * 10 ^ (Lib.decDigits n).length + n) := by
  induction n using Nat.strongRecOn with
  | _ n ih =>
    intro acc
    rcases Nat.lt_or_ge n 10 with h | h
    · rw [Lib.decDigits_one h]
      simp only [Lib.decFrom, digitVal_ofNat h, List.length_singleton, Nat.pow_one]
    · rw [dec_step (by omega), decFrom_append, ih (n / 10) (by omega)]
      simp only [Option.bind_some, Lib.decFrom, digitVal_ofNat (Nat.mod_lt n (by decide : 10 > 0)), List.length_append, List.length_singleton, Nat.pow_succ, Option.some.injEq]
      rw [Nat.add_mul, Nat.mul_assoc]
      omega
theorem dec_ne (n : Nat) : Lib.decDigits n ≠ [] := by
  rw [Lib.decDigits]
  split <;> simp
theorem decNat_dec (n : Nat) : Lib.decNat (Lib.decDigits n) = some n := by
  unfold Lib.decNat
  have : (Lib.decDigits n).isEmpty = false := by simpa using dec_ne n
  rw [this, decFrom_dec]
  simp
theorem dec_of_from : ∀ (r : List UInt8) (acc n : Nat), 0 < acc → Lib.decFrom acc r = some n → Lib.decDigits n = Lib.decDigits acc ++ r
  | [], acc, n, h0, h => by
    simp only [Lib.decFrom, Option.some.injEq] at h
    rw [h, List.append_nil]
  | b :: r, acc, n, h0, h => by
    simp only [Lib.decFrom] at h
    cases hd : Lib.digitVal b with
    | none => rw [hd] at h; cases h
    | some d =>
      rw [hd] at h
      obtain ⟨h1, h2⟩ := digitVal_inv hd
      have := dec_of_from r (acc * 10 + d) n (by omega) h
      rw [this, dec_step (show 9 < acc * 10 + d by omega), show (acc * 10 + d) / 10 = acc by omega, show (acc * 10 + d) % 10 = d by omega, h2]
      simp
/-- What is spelt without a nought ahead is the numeral. -/
theorem dec_inv {b : UInt8} {r : List UInt8} {n : Nat} (h : Lib.decNat (b :: r) = some n) (h0 : b = 48 → r = []) : b :: r = Lib.decDigits n := by
  simp only [Lib.decNat, List.isEmpty_cons, Bool.false_eq_true, if_false, Lib.decFrom] at h
  cases hd : Lib.digitVal b with
  | none => rw [hd] at h; cases h
  | some d =>
    rw [hd] at h
    obtain ⟨h1, h2⟩ := digitVal_inv hd
    simp only [Nat.zero_mul, Nat.zero_add] at h
    rcases Nat.eq_zero_or_pos d with rfl | hp
    · have hr := h0 (by rw [h2]; rfl)
      subst hr
      simp only [Lib.decFrom, Option.some.injEq] at h
      subst h
      rw [Lib.decDigits_one (by omega), h2]
    · rw [dec_of_from r d n hp h, Lib.decDigits_one h1, h2]
      rfl
theorem dec_head (n : Nat) : ∃ b r d, Lib.decDigits n = b :: r ∧ Lib.digitVal b = some d ∧ (b = 48 → r = [] ∧ n = 0) := by
  cases hx : Lib.decDigits n with
  | nil => exact absurd hx (dec_ne n)
  | cons b r =>
    have h := decNat_dec n
    rw [hx] at h
    have h' := h
    simp only [Lib.decNat, List.isEmpty_cons, Bool.false_eq_true, if_false, Lib.decFrom] at h
    cases hd : Lib.digitVal b with
    | none => rw [hd] at h; cases h
    | some d =>
      refine ⟨b, r, d, rfl, hd, fun hb => ?_⟩
      rw [hd] at h
      simp only [Nat.zero_mul, Nat.zero_add] at h
      have hd0 : d = 0 := by
        rw [hb] at hd
        have : Lib.digitVal 48 = some 0 := by decide
        rw [this] at hd
        exact (Option.some.inj hd).symm
      rcases Nat.lt_or_ge n 10 with h1 | h1
      · rw [Lib.decDigits_one h1] at hx
        injection hx with e1 e2
        refine ⟨e2.symm, ?_⟩
        subst e2
        simp only [Lib.decFrom, Option.some.injEq] at h
        omega
      · exfalso
        -- the first digit of a greater number is not nought
        have key : ∀ m : Nat, 0 < m → ∀ b r, Lib.decDigits m = b :: r → b ≠ 48 := by
          intro m
          induction m using Nat.strongRecOn with
          | _ m ih =>
            intro hm b r hb
            rcases Nat.lt_or_ge m 10 with h | h
            · rw [Lib.decDigits_one h] at hb
              injection hb with e1 _
              rw [← e1]
              have : ∀ d : Fin 10, 0 < d.1 → UInt8.ofNat (48 + d.1) ≠ 48 := by decide +kernel
              exact this ⟨m, h⟩ hm
            · rw [dec_step (by omega)] at hb
              cases hq : Lib.decDigits (m / 10) with
              | nil => exact absurd hq (dec_ne _)
              | cons b' r' =>
                rw [hq] at hb
                injection hb with e1 _
                rw [← e1]
                exact ih (m / 10) (by omega) (by omega) b' r' hq
        exact key n (by omega) b r hx hb
theorem dec_digit {n : Nat} {b : UInt8} (h : b ∈ Lib.decDigits n) : 48 ≤ b.toNat ∧ b.toNat ≤ 57 := by
  obtain ⟨k, hk⟩ := List.getElem?_of_mem h
  obtain ⟨d, hd⟩ := Lib.digit_of_decFrom _ 0 _ (decFrom_dec n 0) k b hk
  unfold Lib.digitVal at hd
  split at hd
  · assumption
  · cases hd
theorem nDigits_le : ∀ (k u : Nat), u < 10 ^ (k + 1) → Lib.nDigits u ≤ k + 1
  | 0, u, h => by rw [Lib.nDigits_small (by simpa using h)]; omega
  | k + 1, u, h => by
    rcases Nat.lt_or_ge u 10 with h1 | h1
    · rw [Lib.nDigits_small h1]; omega
    · rw [Lib.nDigits_big (by omega)]
      have := nDigits_le k (u / 10) (by rw [Nat.pow_succ] at h; omega)
      omega
theorem dec_len17 {u : Nat} (h : u < 10 ^ 17) : (Lib.decDigits u).length ≤ 17 := by
  rw [Lib.decDigits_length]
  exact nDigits_le 16 u h
theorem dec_lt17 {u : Nat} (h : (Lib.decDigits u).length ≤ 17) : u < 10 ^ 17 := by
  rw [Lib.decDigits_length] at h
  exact Nat.lt_of_lt_of_le (Lib.lt_pow_nDigits u) (Nat.pow_le_pow_right (by omega) h)
theorem atoi_itoa (y : Int) : Lib.atoi (Lib.itoa y) = some y := by
  unfold Lib.itoa
  split
  · rename_i h
    simp only [Lib.atoi, beq_self_eq_true, if_true, decNat_dec, Option.map_some, Option.some.injEq]
    omega
  · rename_i h
    obtain ⟨b, r, d, e1, e2, _⟩ := dec_head y.toNat
    have hb := dec_digit (n := y.toNat) (b := b) (by rw [e1]; exact List.mem_cons_self)
    have h45 : (b == 45) = false := by
      apply beq_false_of_ne
      rintro rfl
      revert hb; decide
    have h43 : (b == 43) = false := by
      apply beq_false_of_ne
      rintro rfl
      revert hb; decide
    have hn := decNat_dec y.toNat
    rw [e1] at hn ⊢
    simp only [Lib.atoi, h45, h43, Bool.false_eq_true, if_false, hn, Option.map_some, Option.some.injEq]
    omega
theorem itoa_inj {x y : Int} (h : Lib.itoa x = Lib.itoa y) : x = y := by
  have h1 := atoi_itoa x
  rw [h, atoi_itoa] at h1
  exact (Option.some.inj h1).symm
/-- How a number of at most seventeen digits is read, in the one way in which it is written. -/
def NumP (s : List UInt8) (z : Int) (b : Bool) : Prop :=
  (b = true → s = Lib.itoa z ∧ z.natAbs < 10 ^ 17) ∧ (b = false → z = 0 ∧ ∀ y : Int, y.natAbs < 10 ^ 17 → s ≠ Lib.itoa y)
theorem NumP.no {s : List UInt8} (h : ∀ y : Int, y.natAbs < 10 ^ 17 → s ≠ Lib.itoa y) : NumP s 0 false := ⟨fun h => Bool.noConfusion h, fun _ => ⟨rfl, h⟩⟩
theorem NumP.yes {z : Int} (h : z.natAbs < 10 ^ 17) : NumP (Lib.itoa z) z true := ⟨fun _ => ⟨rfl, h⟩, fun h => (Bool.noConfusion h)⟩
theorem NumP.one {s : List UInt8} {z z' : Int} {b b' : Bool} (h : NumP s z b) (h' : NumP s z' b') : z = z' ∧ b = b' := by
  cases b <;> cases b'
  · exact ⟨(h.2 rfl).1.trans (h'.2 rfl).1.symm, rfl⟩
  · exact absurd (h'.1 rfl).1 ((h.2 rfl).2 _ (h'.1 rfl).2)
  · exact absurd (h.1 rfl).1 ((h'.2 rfl).2 _ (h.1 rfl).2)
  · exact ⟨itoa_inj ((h.1 rfl).1.symm.trans (h'.1 rfl).1), rfl⟩
/-! ### Pieces between dots -/
def joinD (ps : List (List UInt8)) : List UInt8 := ps.flatMap (fun p => p ++ [46])
theorem dot_split : ∀ {a b r q : List UInt8}, 46 ∉ a → 46 ∉ b → a ++ 46 :: r = b ++ 46 :: q → a = b ∧ r = q
  | [], [], r, q, _, _, h => by simpa using h
  | [], y :: b, r, q, _, hb, h => by
    exfalso
    simp only [List.nil_append, List.cons_append, List.cons.injEq] at h
    exact hb (by rw [h.1]; exact List.mem_cons_self)
  | x :: a, [], r, q, ha, _, h => by
    exfalso
    simp only [List.nil_append, List.cons_append, List.cons.injEq] at h
    exact ha (by rw [← h.1]; exact List.mem_cons_self)
  | x :: a, y :: b, r, q, ha, hb, h => by
    simp only [List.cons_append, List.cons.injEq] at h
    obtain ⟨h1, h2⟩ := h
    have := dot_split (fun hm => ha (List.mem_cons_of_mem _ hm)) (fun hm => hb (List.mem_cons_of_mem _ hm)) h2
    exact ⟨by rw [h1, this.1], this.2⟩
theorem joinD_inj : ∀ {ps qs : List (List UInt8)}, (∀ p ∈ ps, 46 ∉ p) → (∀ q ∈ qs, 46 ∉ q) → joinD ps = joinD qs → ps = qs
  | [], [], _, _, _ => rfl
  | [], q :: qs, _, _, h => by simp [joinD] at h
  | p :: ps, [], _, _, h => by simp [joinD] at h
  | p :: ps, q :: qs, hp, hq, h => by
    simp only [joinD, List.flatMap_cons, List.append_assoc, List.singleton_append] at h
    obtain ⟨h1, h2⟩ := dot_split (hp p List.mem_cons_self) (hq q List.mem_cons_self) h
    rw [h1, joinD_inj (fun p hm => hp p (List.mem_cons_of_mem _ hm)) (fun q hm => hq q (List.mem_cons_of_mem _ hm)) h2]
/-! ### The texts of nodes -/
theorem lbt_dot {l : Nat} {s : List UInt8} (h : lbt[l]? = some s) : 46 ∉ s := by
  have hm : s ∈ lbt := List.mem_of_getElem? h
  have : ∀ s ∈ lbt, 46 ∉ s := by decide
  exact this s hm
theorem lbt_inj {l l' : Nat} {s : List UInt8} (h : lbt[l]? = some s) (h' : lbt[l']? = some s) : l = l' := by
  have h1 : l < 8 := (List.getElem?_eq_some_iff.1 h).1
  have h2 : l' < 8 := (List.getElem?_eq_some_iff.1 h').1
  have : ∀ a b : Fin 8, lbt[a.1]? = lbt[b.1]? → a = b := by decide +kernel
  have := this ⟨l, h1⟩ ⟨l', h2⟩ (h.trans h'.symm)
  exact congrArg Fin.val this
theorem dec_dot (n : Nat) : 46 ∉ Lib.decDigits n := fun h => by
  have := dec_digit h
  revert this; decide
/-- How a node is read. -/
def NodeP (s : List UInt8) (x : Nd) (b : Bool) : Prop :=
  (b = true → nok x = true ∧ s = ntx x) ∧ (b = false → x = ⟨0, 0⟩ ∧ ∀ y : Nd, nok y = true → s ≠ ntx y)
theorem ntx_of {l n : Nat} {t : List UInt8} (ht : lbt[l]? = some t) (hn : n ≤ 40) : nok ⟨(l : Int), (n : Int)⟩ = true ∧ ntx ⟨(l : Int), (n : Int)⟩ = t ++ 46 :: Lib.decDigits n := by
  have h1 : l < 8 := (List.getElem?_eq_some_iff.1 ht).1
  have hk : nok ⟨(l : Int), (n : Int)⟩ = true := by rw [nok_iff]; dsimp only; omega
  refine ⟨hk, ?_⟩
  unfold ntx
  rw [if_pos hk]
  simp [ht]
theorem ntx_to {y : Nd} (h : nok y = true) : ∃ l n t, y = ⟨((l : Nat) : Int), ((n : Nat) : Int)⟩ ∧ n ≤ 40 ∧ lbt[l]? = some t ∧ ntx y = t ++ 46 :: Lib.decDigits n := by
  obtain ⟨l, n, rfl, hn, t, ht⟩ := nok_nat h
  exact ⟨l, n, t, rfl, hn, ht, (ntx_of ht hn).2⟩
theorem ntx_inj {x y : Nd} (hx : nok x = true) (hy : nok y = true) (h : ntx x = ntx y) : x = y := by
  obtain ⟨l, n, t, rfl, hn, ht, e⟩ := ntx_to hx
  obtain ⟨l', n', t', rfl, hn', ht', e'⟩ := ntx_to hy
  rw [e, e'] at h
  obtain ⟨h1, h2⟩ := dot_split (lbt_dot ht) (lbt_dot ht') h
  subst h1
  have e1 := lbt_inj ht ht'
  have e2 : n = n' := by
    have h3 := decNat_dec n
    rw [h2, decNat_dec] at h3
    exact (Option.some.inj h3).symm
  rw [e1, e2]
theorem NodeP.one {s : List UInt8} {x y : Nd} {b b' : Bool} (h : NodeP s x b) (h' : NodeP s y b') : x = y ∧ b = b' := by
  cases b <;> cases b'
  · exact ⟨(h.2 rfl).1.trans (h'.2 rfl).1.symm, rfl⟩
  · exact absurd (h'.1 rfl).2 ((h.2 rfl).2 _ (h'.1 rfl).1)
  · exact absurd (h.1 rfl).2 ((h'.2 rfl).2 _ (h.1 rfl).1)
  · exact ⟨ntx_inj (h.1 rfl).1 (h'.1 rfl).1 ((h.1 rfl).2.symm.trans (h'.1 rfl).2), rfl⟩
/-- How a label is read. -/
def LabP (s : List UInt8) (l : Nat) (b : Bool) : Prop := (b = true → lbt[l]? = some s) ∧ (b = false → l = 0 ∧ s ∉ lbt)
/-- A node out of the parts of its text, and none out of others. -/
theorem node_yes {a d : List UInt8} {l : Nat} {z : Int} {b c : Bool} (hl : LabP a l b) (hz : NumP d z c) (hb : b = true) (hc : c = true) (hk : nok ⟨(l : Int), z⟩ = true) : a ++ 46 :: d = ntx ⟨(l : Int), z⟩ := by
  have h1 := hl.1 hb
  have h2 := (hz.1 hc).1
  have h3 := nok_iff.1 hk
  dsimp only at h3
  obtain ⟨m, rfl⟩ := Int.eq_ofNat_of_zero_le h3.2.2.1
  rw [(ntx_of h1 (by omega)).2, h2]
  unfold Lib.itoa
  rw [if_neg (by omega)]
  rfl
theorem node_no {a d : List UInt8} {l : Nat} {z : Int} {b c : Bool} (ha : 46 ∉ a) (hl : LabP a l b) (hz : NumP d z c) {y : Nd} (hy : nok y = true) (h : a ++ 46 :: d = ntx y) : b = true ∧ c = true ∧ y = ⟨(l : Int), z⟩ := by
  obtain ⟨l', n', t, rfl, hn, ht, e⟩ := ntx_to hy
  rw [e] at h
  obtain ⟨h1, h2⟩ := dot_split ha (lbt_dot ht) h
  subst h1
  have hb : b = true := by
    cases b with
    | true => rfl
    | false => exact absurd (List.mem_of_getElem? ht) (hl.2 rfl).2
  have h10 : n' < 10 ^ 17 := by have : (40 : Nat) < 10 ^ 17 := by decide
                                omega
  have hi : Lib.itoa (n' : Int) = Lib.decDigits n' := by unfold Lib.itoa; rw [if_neg (by omega)]; rfl
  have hc : c = true := by
    cases c with
    | true => rfl
    | false => exact absurd (by rw [hi]; exact h2) ((hz.2 rfl).2 (n' : Int) (by simpa using h10))
  refine ⟨hb, hc, ?_⟩
  have e1 := lbt_inj ht (hl.1 hb)
  have e2 : (n' : Int) = z := itoa_inj (by rw [hi, ← h2]; exact (hz.1 hc).1)
  rw [e1, e2]
end E
end Go.Proofs.YtlepiheoiinpnaaDoor
