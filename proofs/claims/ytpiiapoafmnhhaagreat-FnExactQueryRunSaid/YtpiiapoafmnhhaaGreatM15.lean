/- How the program reads bytes (plain). -/
import Derived.Test.YtpiiapoafmnhhaaGreatMi
import Derived.Test.YtpiiapoafmnhhaaGreatM12
namespace Go.Proofs.YtpiiapoafmnhhaaGreat
namespace E
open Go
set_option linter.unusedVariables false
/-- A number is read, where the reader stands. -/
def nmR (s : List Nat) (p : Nat) (f : Bool) : Nat × Nat × Bool := if f = true then (0, p, true) else match numA s p with
  | none => (0, p, true)
  | some r => (r.1, r.2, false)
def gpR (s : List Nat) : Nat → Int → Nat → Bool → List Int × Nat × Bool
  | 0, _, p, f => ([], p, f)
  | k + 1, last, p, f => if f = true then ([], p, true) else
    ((last + 1 + ((nmR s p false).1 : Int)) :: (gpR s k (last + 1 + (nmR s p false).1) (nmR s p false).2.1 ((nmR s p false).2.2 || decide (16383 < last + 1 + ((nmR s p false).1 : Int)))).1,
      (gpR s k (last + 1 + (nmR s p false).1) (nmR s p false).2.1 ((nmR s p false).2.2 || decide (16383 < last + 1 + ((nmR s p false).1 : Int)))).2)
/-- A row is read. -/
def rwR (s : List Nat) (p : Nat) (f : Bool) : List Int × Nat × Bool := gpR s (nmR s p f).1 (-1) (nmR s p f).2.1 ((nmR s p f).2.2 || decide (127 < (nmR s p f).1))
def rsR (s : List Nat) : Nat → Nat → Bool → List Rw × Nat × Bool
  | 0, p, f => ([], p, f)
  | k + 1, p, f => if f = true then ([], p, true) else
    (⟨(nmR s p false).1, (rwR s (nmR s p false).2.1 (nmR s p false).2.2).1, p, (rwR s (nmR s p false).2.1 (nmR s p false).2.2).2.1⟩ :: (rsR s k (rwR s (nmR s p false).2.1 (nmR s p false).2.2).2.1 (rwR s (nmR s p false).2.1 (nmR s p false).2.2).2.2).1,
      (rsR s k (rwR s (nmR s p false).2.1 (nmR s p false).2.2).2.1 (rwR s (nmR s p false).2.1 (nmR s p false).2.2).2.2).2)
def clR (s : List Nat) : Option Cls :=
  let a := rwR s 0 false
  let c := nmR s a.2.1 a.2.2
  let t := rsR s c.1 c.2.1 (c.2.2 || decide (14 < c.1))
  if t.2.2 = false ∧ t.2.1 = s.length then some ⟨a.1, a.2.1, t.1⟩ else none
theorem nmR_t (s : List Nat) (p : Nat) : nmR s p true = (0, p, true) := rfl
theorem nmR_s {s : List Nat} {p n nx : Nat} (h : numA s p = some (n, nx)) : nmR s p false = (n, nx, false) := by unfold nmR; rw [if_neg (by decide), h]
theorem nmR_n {s : List Nat} {p : Nat} (h : numA s p = none) : nmR s p false = (0, p, true) := by unfold nmR; rw [if_neg (by decide), h]
theorem nmR_bd {s : ByteArray} {p : Nat} {f : Bool} (h : p ≤ s.size) : (nmR (bn s) p f).1 ≤ 16383 ∧ (nmR (bn s) p f).2.1 ≤ s.size ∧ p ≤ (nmR (bn s) p f).2.1 := by
  cases f with
  | true => rw [nmR_t]; simpa using h
  | false =>
    cases e : numA (bn s) p with
    | none => rw [nmR_n e]; simpa using h
    | some r => obtain ⟨n, nx⟩ := r; rw [nmR_s e]; have := numA_le e; dsimp only at *; omega
theorem nmR_f {s : List Nat} {p : Nat} {f : Bool} (h : (nmR s p f).2.2 = false) : f = false ∧ numA s p = some ((nmR s p f).1, (nmR s p f).2.1) := by
  cases f with
  | true => rw [nmR_t] at h; cases h
  | false =>
    cases e : numA s p with
    | none => rw [nmR_n e] at h; cases h
    | some r => obtain ⟨n, nx⟩ := r; rw [nmR_s e]; exact ⟨rfl, rfl⟩
theorem gpR_t (s : List Nat) (k : Nat) (last : Int) (p : Nat) : gpR s k last p true = ([], p, true) := by cases k <;> rfl
theorem gpR_0 (s : List Nat) (last : Int) (p : Nat) (f : Bool) : gpR s 0 last p f = ([], p, f) := rfl
theorem gpR_s (s : List Nat) (k : Nat) (last : Int) (p : Nat) {n nx : Nat} {fl : Bool} (h : nmR s p false = (n, nx, fl)) : gpR s (k + 1) last p false = ((last + 1 + (n : Int)) :: (gpR s k (last + 1 + n) nx (fl || decide (16383 < last + 1 + (n : Int)))).1, (gpR s k (last + 1 + n) nx (fl || decide (16383 < last + 1 + (n : Int)))).2) := by
  conv => lhs; unfold gpR
  rw [if_neg (by decide), h]
theorem gpR_of {s : List Nat} : ∀ (k : Nat) (last : Int) (p : Nat) {l : List Int} {q : Nat}, gapA s k last p = some (l, q) → gpR s k last p false = (l, q, false)
  | 0, last, p, l, q, h => by simp only [gapA, Option.some.injEq, Prod.mk.injEq] at h; rw [gpR_0, h.1, h.2]
  | k + 1, last, p, l, q, h => by
    unfold gapA at h
    cases e : numA s p with
    | none => rw [e] at h; cases h
    | some r =>
      obtain ⟨n, nx⟩ := r
      rw [e] at h
      dsimp only at h
      split at h
      · cases h
      · rename_i hn
        cases e2 : gapA s k (last + 1 + n) nx with
        | none => rw [e2] at h; cases h
        | some r2 =>
          obtain ⟨l2, q2⟩ := r2
          rw [e2] at h
          simp only [Option.map_some, Option.some.injEq, Prod.mk.injEq] at h
          rw [gpR_s s k last p (nmR_s e), decide_eq_false hn, Bool.or_false, gpR_of k _ _ e2, ← h.1, ← h.2]
theorem gpR_to {s : List Nat} : ∀ (k : Nat) (last : Int) (p : Nat), (gpR s k last p false).2.2 = false → gapA s k last p = some ((gpR s k last p false).1, (gpR s k last p false).2.1)
  | 0, last, p, _ => rfl
  | k + 1, last, p, h => by
    cases e : numA s p with
    | none =>
      rw [gpR_s s k last p (nmR_n e), Bool.true_or, gpR_t] at h
      cases h
    | some r =>
      obtain ⟨n, nx⟩ := r
      rw [gpR_s s k last p (nmR_s e)] at h ⊢
      by_cases hn : 16383 < last + 1 + (n : Int)
      · rw [decide_eq_true hn, Bool.or_true, gpR_t] at h; cases h
      · rw [decide_eq_false hn, Bool.or_false] at h ⊢
        have ih := gpR_to k (last + 1 + n) nx h
        unfold gapA
        rw [e]
        dsimp only
        rw [if_neg hn, ih]
        rfl
theorem rwR_t (s : List Nat) (p : Nat) : rwR s p true = ([], p, true) := by unfold rwR; rw [nmR_t]; rfl
theorem rwR_of {s : List Nat} {p : Nat} {l : List Int} {q : Nat} (h : rowA s p = some (l, q)) : rwR s p false = (l, q, false) := by
  unfold rowA at h
  cases e : numA s p with
  | none => rw [e] at h; cases h
  | some r =>
    obtain ⟨n, nx⟩ := r
    rw [e] at h
    dsimp only at h
    split at h
    · cases h
    · rename_i hn
      unfold rwR
      rw [nmR_s e]
      dsimp only
      rw [decide_eq_false hn, Bool.or_false]
      exact gpR_of n _ _ h
theorem rwR_to {s : List Nat} {p : Nat} {f : Bool} (h : (rwR s p f).2.2 = false) : f = false ∧ rowA s p = some ((rwR s p f).1, (rwR s p f).2.1) := by
  cases f with
  | true => rw [rwR_t] at h; cases h
  | false =>
    refine ⟨rfl, ?_⟩
    cases e : numA s p with
    | none =>
      unfold rwR at h
      rw [nmR_n e] at h
      dsimp only at h
      rw [Bool.true_or, gpR_t] at h
      cases h
    | some r =>
      obtain ⟨n, nx⟩ := r
      unfold rwR at h ⊢
      rw [nmR_s e] at h ⊢
      dsimp only at h ⊢
      by_cases hn : 127 < n
      · rw [decide_eq_true hn, Bool.or_true, gpR_t] at h; cases h
      · rw [decide_eq_false hn, Bool.or_false] at h ⊢
        have ih := gpR_to n (-1) nx h
        unfold rowA
        rw [e]
        dsimp only
        rw [if_neg hn, ih]
theorem gpR_len {s : ByteArray} : ∀ (k : Nat) (last : Int) (p : Nat) (f : Bool), p ≤ s.size → (gpR (bn s) k last p f).1.length ≤ k ∧ (gpR (bn s) k last p f).2.1 ≤ s.size ∧ p ≤ (gpR (bn s) k last p f).2.1
  | 0, last, p, f, h => by rw [gpR_0]; simpa using h
  | k + 1, last, p, true, h => by rw [gpR_t]; simpa using h
  | k + 1, last, p, false, h => by
    have h1 := nmR_bd (f := false) h
    rcases e : nmR (bn s) p false with ⟨n, nx, fl⟩
    rw [e] at h1
    dsimp only at h1
    rw [gpR_s _ k last p e]
    have ih := gpR_len k (last + 1 + n) nx (fl || decide (16383 < last + 1 + (n : Int))) h1.2.1
    simp only [List.length_cons]
    omega
theorem rwR_len {s : ByteArray} {p : Nat} {f : Bool} (h : p ≤ s.size) : (rwR (bn s) p f).1.length ≤ 127 ∧ (rwR (bn s) p f).2.1 ≤ s.size ∧ p ≤ (rwR (bn s) p f).2.1 := by
  have h1 := nmR_bd (f := f) h
  have h2 := gpR_len (s := s) (nmR (bn s) p f).1 (-1) (nmR (bn s) p f).2.1 ((nmR (bn s) p f).2.2 || decide (127 < (nmR (bn s) p f).1)) h1.2.1
  unfold rwR
  refine ⟨?_, h2.2.1, by omega⟩
  rcases Nat.lt_or_ge 127 (nmR (bn s) p f).1 with h3 | h3
  · rw [decide_eq_true h3, Bool.or_true, gpR_t]; simp
  · omega
theorem rsR_t (s : List Nat) (k : Nat) (p : Nat) : rsR s k p true = ([], p, true) := by cases k <;> rfl
theorem rsR_0 (s : List Nat) (p : Nat) (f : Bool) : rsR s 0 p f = ([], p, f) := rfl
theorem rsR_s (s : List Nat) (k : Nat) (p : Nat) {n p1 : Nat} {f1 : Bool} {l : List Int} {p2 : Nat} {f2 : Bool} (h : nmR s p false = (n, p1, f1)) (h2 : rwR s p1 f1 = (l, p2, f2)) : rsR s (k + 1) p false = (⟨n, l, p, p2⟩ :: (rsR s k p2 f2).1, (rsR s k p2 f2).2) := by
  conv => lhs; unfold rsR
  rw [if_neg (by decide), h]
  dsimp only
  rw [h2]
theorem rsR_of {s : List Nat} : ∀ (k p : Nat) {l : List Rw} {q : Nat}, rowsA s k p = some (l, q) → rsR s k p false = (l, q, false)
  | 0, p, l, q, h => by simp only [rowsA, Option.some.injEq, Prod.mk.injEq] at h; rw [rsR_0, h.1, h.2]
  | k + 1, p, l, q, h => by
    obtain ⟨c, p1, row, p2, rest, h1, h2, h3, h4⟩ := rowsA_some h
    rw [rsR_s s k p (nmR_s h1) (rwR_of h2), rsR_of k p2 h3, h4]
theorem rsR_to {s : List Nat} : ∀ (k p : Nat), (rsR s k p false).2.2 = false → rowsA s k p = some ((rsR s k p false).1, (rsR s k p false).2.1)
  | 0, p, _ => rfl
  | k + 1, p, h => by
    rcases e1 : nmR s p false with ⟨n, p1, f1⟩
    rcases e2 : rwR s p1 f1 with ⟨l, p2, f2⟩
    rw [rsR_s s k p e1 e2] at h ⊢
    cases f2 with
    | true => rw [rsR_t] at h; cases h
    | false =>
      have ih := rsR_to k p2 h
      have h2 := rwR_to (s := s) (p := p1) (f := f1) (by rw [e2])
      rw [e2] at h2
      obtain ⟨rfl, h2⟩ := h2
      have h1 := nmR_f (s := s) (p := p) (f := false) (by rw [e1])
      rw [e1] at h1
      unfold rowsA
      rw [h1.2]
      dsimp only
      rw [h2]
      dsimp only
      rw [ih]
      rfl
theorem clR_to {s : List Nat} {c : Cls} (h : clR s = some c) : clsA s = some c := by
  unfold clR at h
  dsimp only at h
  split at h
  · rename_i hh
    injection h with h
    rcases e1 : rwR s 0 false with ⟨l, q, f⟩
    rw [e1] at hh h
    dsimp only at hh h
    rcases e2 : nmR s q f with ⟨n, p1, f1⟩
    rw [e2] at hh h
    dsimp only at hh h
    cases hf : (f1 || decide (14 < n)) with
    | true => rw [hf, rsR_t] at hh; cases hh.1
    | false =>
      rw [hf] at hh h
      simp only [Bool.or_eq_false_iff] at hf
      obtain ⟨hf1, _⟩ := hf
      subst hf1
      have h3 := rsR_to n p1 hh.1
      have h2 := nmR_f (s := s) (p := q) (f := f) (by rw [e2])
      rw [e2] at h2
      obtain ⟨rfl, h2⟩ := h2
      have h1 := rwR_to (s := s) (p := 0) (f := false) (by rw [e1])
      rw [e1] at h1
      unfold clsA
      rw [h1.2]
      dsimp only
      rw [h2]
      dsimp only
      rw [h3]
      dsimp only
      rw [if_pos hh.2, h]
  · cases h
theorem rowsA_len {s : List Nat} : ∀ (k p : Nat) {l : List Rw} {q : Nat}, rowsA s k p = some (l, q) → l.length = k
  | 0, p, l, q, h => by simp only [rowsA, Option.some.injEq, Prod.mk.injEq] at h; rw [← h.1]; rfl
  | k + 1, p, l, q, h => by
    obtain ⟨c, p1, row, p2, rest, h1, h2, h3, h4⟩ := rowsA_some h
    rw [h4, List.length_cons, rowsA_len k p2 h3]
theorem clR_of {s : List Nat} {c : Cls} (h : clsA s = some c) (hl : c.rows.length ≤ 14) : clR s = some c := by
  obtain ⟨n, p, h1, h2, h3⟩ := clsA_parts h
  have h4 := rowsA_len _ _ h3
  unfold clR
  dsimp only
  rw [rwR_of h1]
  dsimp only
  rw [nmR_s h2]
  dsimp only
  rw [decide_eq_false (by omega), Bool.or_false, rsR_of _ _ h3]
  dsimp only
  rw [if_pos ⟨rfl, rfl⟩]
theorem rsR_len {s : ByteArray} : ∀ (k p : Nat) (f : Bool), p ≤ s.size → (rsR (bn s) k p f).1.length ≤ k ∧ (rsR (bn s) k p f).2.1 ≤ s.size
  | 0, p, f, h => by rw [rsR_0]; simpa using h
  | k + 1, p, true, h => by rw [rsR_t]; simpa using h
  | k + 1, p, false, h => by
    have h1 := nmR_bd (f := false) h
    rcases e1 : nmR (bn s) p false with ⟨n, p1, f1⟩
    rw [e1] at h1
    dsimp only at h1
    have h2 := rwR_len (f := f1) h1.2.1
    rcases e2 : rwR (bn s) p1 f1 with ⟨l, p2, f2⟩
    rw [e2] at h2
    dsimp only at h2
    rw [rsR_s _ k p e1 e2]
    have ih := rsR_len k p2 f2 h2.2.1
    simp only [List.length_cons]
    omega
end E
end Go.Proofs.YtpiiapoafmnhhaaGreat
/- How the program reads bytes. -/
namespace Go.Proofs.YtpiiapoafmnhhaaGreat
namespace E
open Go Go.RowKit
set_option linter.unusedSimpArgs false
set_option linter.unusedVariables false
set_option maxHeartbeats 1000000
set_option maxRecDepth 10000
attribute [local irreducible] HC HL HQ HX HO At Y YV Opd Opds KnX Sl Ld Src GV RV Calls Code.wp eptr adr RdF ownF OneX HG LdC
theorem c_rnum {g : Nat} {s : ByteArray} {p : Nat} {f : Bool} {w0 : World} {K : List Ck} (w : World) (hw : KOk w0 (.box g 176 [.string s, .int .i64 (p : Int), .bool f] :: K) w) (hs : s.size ≤ 4000000 := by omega) (hp : p ≤ s.size := by omega) :
    Calls Tryz.prog 154 #[.pointer (some ⟨g, 0, none⟩)] w (RetK (fun _ : Unit => .int .i64 ((nmR (bn s) p f).1 : Int)) (fun _ => .box g 176 [.string s, .int .i64 ((nmR (bn s) p f).2.1 : Int), .bool (nmR (bn s) p f).2.2] :: K) w0) := by
  cases f with
  | true =>
    rw [nmR_t]
    refine enterK (args := _) hw Tryz.func154 rfl Tryz.ntmps154 (by simp) ?_
    repeat' (first | refine E.st ?_ | refine E.q3 ?_ | refine E.q ?_ | refine E.qs ?_ | refine E.q2 ?_ | refine E.q4 ?_ | refine E.tr ?_ | refine E.ap (fun _ _ => ?_) | refine E.b1 (fun _ _ => ?_) | refine E.b0 (fun _ _ => ?_) | refine E.bsn (fun _ _ => ?_) | refine E.mk (fun _ _ => ?_) | refine E.bxO (fun _ => ?_) | refine E.al (fun _ => ?_) | refine E.sbO ?_ | refine E.dq ?_ | refine E.ct ?_ | refine E.cf ?_ | refine E.cs (fun hh => ?_) (fun hh => ?_) | refine E.at_block_other rfl ?_)
    exact r1K ()
  | false =>
    cases e : numA (bn s) p with
    | none =>
      rw [nmR_n e]
      refine enterK (args := _) hw Tryz.func154 rfl Tryz.ntmps154 (by simp) ?_
      repeat' (first | refine E.st ?_ | refine E.dxa [0, 1, 2, 3, 4, 5, 6, 7, 8, 9, 10, 11, 12, 13, 14, 15] ?_ | refine E.cl (h := fun _ w _ => c_i_NumAt_n w e) (k := ?_)  | refine E.q3 ?_ | refine E.q ?_ | refine E.qs ?_ | refine E.q2 ?_ | refine E.q4 ?_ | refine E.tr ?_ | refine E.ap (fun _ _ => ?_) | refine E.b1 (fun _ _ => ?_) | refine E.b0 (fun _ _ => ?_) | refine E.bsn (fun _ _ => ?_) | refine E.mk (fun _ _ => ?_) | refine E.bxO (fun _ => ?_) | refine E.al (fun _ => ?_) | refine E.sbO ?_ | refine E.dq ?_ | refine E.ct ?_ | refine E.cf ?_ | refine E.cs (fun hh => ?_) (fun hh => ?_) | refine E.at_block_other rfl ?_)
      exact r1K ()
    | some r =>
      obtain ⟨n, nx⟩ := r
      rw [nmR_s e]
      refine enterK (args := _) hw Tryz.func154 rfl Tryz.ntmps154 (by simp) ?_
      repeat' (first | refine E.st ?_ | refine E.dxa [0, 1, 2, 3, 4, 5, 6, 7, 8, 9, 10, 11, 12, 13, 14, 15] ?_ | refine E.cl (h := fun _ w _ => c_i_NumAt_s w e) (k := ?_)  | refine E.q3 ?_ | refine E.q ?_ | refine E.qs ?_ | refine E.q2 ?_ | refine E.q4 ?_ | refine E.tr ?_ | refine E.ap (fun _ _ => ?_) | refine E.b1 (fun _ _ => ?_) | refine E.b0 (fun _ _ => ?_) | refine E.bsn (fun _ _ => ?_) | refine E.mk (fun _ _ => ?_) | refine E.bxO (fun _ => ?_) | refine E.al (fun _ => ?_) | refine E.sbO ?_ | refine E.dq ?_ | refine E.ct ?_ | refine E.cf ?_ | refine E.cs (fun hh => ?_) (fun hh => ?_) | refine E.at_block_other rfl ?_)
      exact r1K ()
theorem c_rrow {g : Nat} {s : ByteArray} {p : Nat} {f : Bool} {w0 : World} {K : List Ck} (w : World) (hw : KOk w0 (.box g 176 [.string s, .int .i64 (p : Int), .bool f] :: K) w) (hs : s.size ≤ 4000000 := by omega) (hp : p ≤ s.size := by omega) :
    Calls Tryz.prog 153 #[.pointer (some ⟨g, 0, none⟩)] w (RetK (fun z : V1 => z.1) (fun z => ownF 3 z.1 (rwR (bn s) p f).1 :: .box g 176 [.string s, .int .i64 ((rwR (bn s) p f).2.1 : Int), .bool (rwR (bn s) p f).2.2] :: K) w0) := by
  have hb := nmR_bd (f := f) hp
  have hR : rwR (bn s) p f = gpR (bn s) (nmR (bn s) p f).1 (-1) (nmR (bn s) p f).2.1 ((nmR (bn s) p f).2.2 || decide (127 < (nmR (bn s) p f).1)) := rfl
  have hc : ∀ K w, KOk w0 (.box g 176 [.string s, .int .i64 (p : Int), .bool f] :: K) w → Calls Tryz.prog 154 #[.pointer (some ⟨g, 0, none⟩)] w (RetK (fun _ : Unit => .int .i64 ((nmR (bn s) p f).1 : Int)) (fun _ => .box g 176 [.string s, .int .i64 ((nmR (bn s) p f).2.1 : Int), .bool (nmR (bn s) p f).2.2] :: K) w0) := fun K w hw => c_rnum w hw
  rcases e : nmR (bn s) p f with ⟨n, p1, f1⟩
  rw [e] at hb hR hc
  dsimp only at hb hR hc
  obtain ⟨hb1, hb2, hb3⟩ := hb
  by_cases hn : 127 < n
  · rw [decide_eq_true hn, Bool.or_true, gpR_t] at hR
    rw [hR]
    refine enterK (args := _) hw Tryz.func153 rfl Tryz.ntmps153 (by simp) ?_
    refine E.nl 3 (α := Int) ?_
    repeat' (first | refine E.st ?_ | refine E.ckq (h := fun w hw => hc _ w hw) (k := fun _ => ?_) | refine E.q3 ?_ | refine E.q ?_ | refine E.qs ?_ | refine E.q2 ?_ | refine E.q4 ?_ | refine E.tr ?_ | refine E.ap (fun _ _ => ?_) | refine E.b1 (fun _ _ => ?_) | refine E.b0 (fun _ _ => ?_) | refine E.bsn (fun _ _ => ?_) | refine E.mk (fun _ _ => ?_) | refine E.bxO (fun _ => ?_) | refine E.al (fun _ => ?_) | refine E.sbO ?_ | refine E.dq ?_ | refine E.ct ?_ | refine E.cf ?_ | refine E.cs (fun hh => ?_) (fun hh => ?_) | refine E.at_block_other rfl ?_)
    refine lq (fun _ : Unit => True) (fun _ => []) (fun _ => []) (fun _ => 0) () trivial (fun _ _ => ?_)
    repeat' (first | refine E.st ?_ | refine E.q3 ?_ | refine E.q ?_ | refine E.qs ?_ | refine E.q2 ?_ | refine E.q4 ?_ | refine E.tr ?_ | refine E.ap (fun _ _ => ?_) | refine E.b1 (fun _ _ => ?_) | refine E.b0 (fun _ _ => ?_) | refine E.bsn (fun _ _ => ?_) | refine E.mk (fun _ _ => ?_) | refine E.bxO (fun _ => ?_) | refine E.al (fun _ => ?_) | refine E.sbO ?_ | refine E.dq ?_ | refine E.ct ?_ | refine E.cf ?_ | refine E.cs (fun hh => ?_) (fun hh => ?_) | refine E.at_block_other rfl ?_)
    all_goals first
      | exact r1K (α := V1) ⟨.slice none 0 0, rfl⟩
      | (exfalso; simp at hh; done)
      | (exfalso; simp at hh; omega)
      | trace_state
  · rw [decide_eq_false hn, Bool.or_false] at hR
    generalize rwR (bn s) p f = R at *
    refine enterK (args := _) hw Tryz.func153 rfl Tryz.ntmps153 (by simp) ?_
    refine E.nl 3 (α := Int) ?_
    repeat' (first | refine E.st ?_ | refine E.ckq (h := fun w hw => hc _ w hw) (k := fun _ => ?_) | refine E.q3 ?_ | refine E.q ?_ | refine E.qs ?_ | refine E.q2 ?_ | refine E.q4 ?_ | refine E.tr ?_ | refine E.ap (fun _ _ => ?_) | refine E.b1 (fun _ _ => ?_) | refine E.b0 (fun _ _ => ?_) | refine E.bsn (fun _ _ => ?_) | refine E.mk (fun _ _ => ?_) | refine E.bxO (fun _ => ?_) | refine E.al (fun _ => ?_) | refine E.sbO ?_ | refine E.dq ?_ | refine E.ct ?_ | refine E.cf ?_ | refine E.cs (fun hh => ?_) (fun hh => ?_) | refine E.at_block_other rfl ?_)
    refine lq (fun z : Nat × List Int × Int × Nat × Bool × V1 => z.1 ≤ n ∧ z.2.1.length ≤ z.1 ∧ (-1 ≤ z.2.2.1 ∧ z.2.2.1 ≤ 40000) ∧ (z.2.2.2.2.1 = false → z.2.2.1 ≤ 16383) ∧ z.2.2.2.1 ≤ s.size ∧ R = (z.2.1 ++ (gpR (bn s) (n - z.1) z.2.2.1 z.2.2.2.1 z.2.2.2.2.1).1, (gpR (bn s) (n - z.1) z.2.2.1 z.2.2.2.1 z.2.2.2.2.1).2)) (fun z => [(6, .pl (.int .i64 (z.1 : Int))), (5, .pl (.int .i64 z.2.2.1)), (4, .pl z.2.2.2.2.2.1)]) (fun z => [ownF 3 z.2.2.2.2.2.1 z.2.1, .box g 176 [.string s, .int .i64 (z.2.2.2.1 : Int), .bool z.2.2.2.2.1]]) (fun z => n - z.1) (0, [], -1, p1, f1, ⟨.slice none 0 0, rfl⟩) ⟨Nat.zero_le _, by simp, by dsimp only; omega, by dsimp only; omega, hb2, hR⟩ (fun z hz => ?_)
    obtain ⟨k, xs, last, q, fl, ⟨v, hv⟩⟩ := z
    obtain ⟨hk, hl, hla, hfa, hq, hE⟩ := hz
    dsimp only at hk hl hla hfa hq hE hv ⊢
    cases fl with
    | true =>
      rw [gpR_t, List.append_nil] at hE
      subst hE
      repeat' (first | refine E.st ?_ | refine E.q3 ?_ | refine E.q ?_ | refine E.qs ?_ | refine E.q2 ?_ | refine E.q4 ?_ | refine E.tr ?_ | refine E.ap (fun _ _ => ?_) | refine E.b1 (fun _ _ => ?_) | refine E.b0 (fun _ _ => ?_) | refine E.bsn (fun _ _ => ?_) | refine E.mk (fun _ _ => ?_) | refine E.bxO (fun _ => ?_) | refine E.al (fun _ => ?_) | refine E.sbO ?_ | refine E.dq ?_ | refine E.ct ?_ | refine E.cf ?_ | refine E.cs (fun hh => ?_) (fun hh => ?_) | refine E.at_block_other rfl ?_)
      all_goals first
        | exact r1K (α := V1) ⟨v, hv⟩
        | (exfalso; simp at hh; done)
        | (exfalso; simp at hh; omega)
        | trace_state
    | false =>
      rcases Nat.lt_or_ge k n with hlt | hge
      · have hb := nmR_bd (f := false) hq
        have hc2 : ∀ K w, KOk w0 (.box g 176 [.string s, .int .i64 (q : Int), .bool false] :: K) w → Calls Tryz.prog 154 #[.pointer (some ⟨g, 0, none⟩)] w (RetK (fun _ : Unit => .int .i64 ((nmR (bn s) q false).1 : Int)) (fun _ => .box g 176 [.string s, .int .i64 ((nmR (bn s) q false).2.1 : Int), .bool (nmR (bn s) q false).2.2] :: K) w0) := fun K w hw => c_rnum w hw
        rcases e2 : nmR (bn s) q false with ⟨m, q1, f2⟩
        rw [e2] at hb hc2
        dsimp only at hb hc2
        obtain ⟨hm1, hm2, hm3⟩ := hb
        have hla2 := hfa rfl
        rw [show n - k = (n - (k + 1)) + 1 from by omega, gpR_s _ _ last q e2] at hE
        by_cases hbig : 16383 < last + 1 + (m : Int)
        · rw [decide_eq_true hbig, Bool.or_true] at hE
          repeat' (first | refine E.st ?_ | refine E.ckq (h := fun w hw => hc2 _ w hw) (k := fun _ => ?_) | refine E.q3 ?_ | refine E.q ?_ | refine E.qs ?_ | refine E.q2 ?_ | refine E.q4 ?_ | refine E.tr ?_ | refine E.ap (fun _ _ => ?_) | refine E.b1 (fun _ _ => ?_) | refine E.b0 (fun _ _ => ?_) | refine E.bsn (fun _ _ => ?_) | refine E.mk (fun _ _ => ?_) | refine E.bxO (fun _ => ?_) | refine E.al (fun _ => ?_) | refine E.sbO ?_ | refine E.dq ?_ | refine E.ct ?_ | refine E.cf ?_ | refine E.cs (fun hh => ?_) (fun hh => ?_) | refine E.at_block_other rfl ?_)
          all_goals first
            | exact rd (α := Nat × List Int × Int × Nat × Bool × V1) (k + 1, xs ++ [last + 1 + (m : Int)], last + 1 + m, q1, true, ⟨_, by assumption⟩) ⟨hlt, by dsimp only; rw [List.length_append]; simp; omega, by dsimp only; omega, (fun h => by cases h), hm2, by rw [hE]; simp⟩ (by dsimp only; omega)
            | (exfalso; simp at hh; done)
            | (exfalso; simp at hh; omega)
            | trace_state
        · rw [decide_eq_false hbig, Bool.or_false] at hE
          repeat' (first | refine E.st ?_ | refine E.ckq (h := fun w hw => hc2 _ w hw) (k := fun _ => ?_) | refine E.q3 ?_ | refine E.q ?_ | refine E.qs ?_ | refine E.q2 ?_ | refine E.q4 ?_ | refine E.tr ?_ | refine E.ap (fun _ _ => ?_) | refine E.b1 (fun _ _ => ?_) | refine E.b0 (fun _ _ => ?_) | refine E.bsn (fun _ _ => ?_) | refine E.mk (fun _ _ => ?_) | refine E.bxO (fun _ => ?_) | refine E.al (fun _ => ?_) | refine E.sbO ?_ | refine E.dq ?_ | refine E.ct ?_ | refine E.cf ?_ | refine E.cs (fun hh => ?_) (fun hh => ?_) | refine E.at_block_other rfl ?_)
          all_goals first
            | exact rd (α := Nat × List Int × Int × Nat × Bool × V1) (k + 1, xs ++ [last + 1 + (m : Int)], last + 1 + m, q1, f2, ⟨_, by assumption⟩) ⟨hlt, by dsimp only; rw [List.length_append]; simp; omega, by dsimp only; omega, (fun h => by dsimp only; omega), hm2, by rw [hE]; simp⟩ (by dsimp only; omega)
            | (exfalso; simp at hh; done)
            | (exfalso; simp at hh; omega)
            | trace_state
      · rw [show n - k = 0 from by omega, gpR_0, List.append_nil] at hE
        subst hE
        repeat' (first | refine E.st ?_ | refine E.q3 ?_ | refine E.q ?_ | refine E.qs ?_ | refine E.q2 ?_ | refine E.q4 ?_ | refine E.tr ?_ | refine E.ap (fun _ _ => ?_) | refine E.b1 (fun _ _ => ?_) | refine E.b0 (fun _ _ => ?_) | refine E.bsn (fun _ _ => ?_) | refine E.mk (fun _ _ => ?_) | refine E.bxO (fun _ => ?_) | refine E.al (fun _ => ?_) | refine E.sbO ?_ | refine E.dq ?_ | refine E.ct ?_ | refine E.cf ?_ | refine E.cs (fun hh => ?_) (fun hh => ?_) | refine E.at_block_other rfl ?_)
        all_goals first
          | exact r1K (α := V1) ⟨v, hv⟩
          | (exfalso; simp at hh; done)
          | (exfalso; simp at hh; omega)
          | trace_state
end E
end Go.Proofs.YtpiiapoafmnhhaaGreat
