/- Where rows begin and end, as the reference says it. -/
import Derived.Test.YtpiiapoafmnhhaaGreatM12
import Derived.Test.YtpiiapoafmnhhaaGreatUg
import Derived.Test.YtpiiapoafmnhhaaGreatM09
namespace Go.Proofs.YtpiiapoafmnhhaaGreat
namespace E
open Go Go.RowKit
set_option linter.unusedSimpArgs false
set_option linter.unusedVariables false
set_option maxHeartbeats 1000000
set_option maxRecDepth 10000
attribute [local irreducible] HC HL HQ HX HO At Y YV Opd Opds KnX Sl Ld Src GV RV Calls Code.wp eptr adr RdF ownF OneX HG LdC
def reI (r : Option (List Int × Nat)) : Int := ((re r : Nat) : Int)
theorem c_l6Head {s : ByteArray} (w : World) (hs : s.size ≤ 4000000 := by omega) : Calls Tryz.prog 125 #[.string s] w (Ret (fun _ : Unit => .int .i64 (reI (rowA (bn s) 0))) (fun _ => []) w) := by
  refine enter (args := _) Tryz.func125 rfl Tryz.ntmps125 (by simp) ?_
  repeat' (first | refine E.st ?_ | refine E.cm (h := fun w _ => c_s_RowAt (s := s) (p := 0) w) (k := fun z => ?_) | refine E.q3 ?_ | refine E.q ?_ | refine E.qs ?_ | refine E.q2 ?_ | refine E.q4 ?_ | refine E.tr ?_ | refine E.ap (fun _ _ => ?_) | refine E.b1 (fun _ _ => ?_) | refine E.b0 (fun _ _ => ?_) | refine E.bsn (fun _ _ => ?_) | refine E.mk (fun _ _ => ?_) | refine E.bxO (fun _ => ?_) | refine E.al (fun _ => ?_) | refine E.sbO ?_ | refine E.dq ?_ | refine E.ct ?_ | refine E.cf ?_ | refine E.cs (fun hh => ?_) (fun hh => ?_) | refine E.at_block_other rfl ?_)
  exact ri rfl
theorem clsA_parts {l : List Nat} {c : Cls} (h : clsA l = some c) : ∃ n p, rowA l 0 = some (c.nums, c.hd) ∧ numA l c.hd = some (n, p) ∧ rowsA l n p = some (c.rows, l.length) := by
  unfold clsA at h
  split at h
  · cases h
  · rename_i nums hd h1
    split at h
    · cases h
    · rename_i n p h2
      split at h
      · cases h
      · rename_i rows q h3
        split at h
        · rename_i hq
          injection h with h
          subst h hq
          exact ⟨n, p, h1, h2, h3⟩
        · cases h
theorem rowsA_some {l : List Nat} {n p : Nat} {rows : List Rw} {q : Nat} (h : rowsA l (n + 1) p = some (rows, q)) : ∃ c p1 row p2 rest, numA l p = some (c, p1) ∧ rowA l p1 = some (row, p2) ∧ rowsA l n p2 = some (rest, q) ∧ rows = ⟨(c : Int), row, p, p2⟩ :: rest := by
  unfold rowsA at h
  split at h
  · cases h
  · rename_i c p1 h1
    split at h
    · cases h
    · rename_i row p2 h2
      cases h3 : rowsA l n p2 with
      | none => rw [h3] at h; cases h
      | some r =>
        rw [h3] at h
        simp only [Option.map_some, Option.some.injEq, Prod.mk.injEq] at h
        obtain ⟨r1, r2⟩ := r
        dsimp only at h
        exact ⟨c, p1, row, p2, r1, h1, h2, by rw [h3, h.2], h.1.symm⟩
theorem c_l6Row {s : ByteArray} {c : Cls} {x : Int} (w : World) (hc : clsA (bn s) = some c) (hs : s.size ≤ 4000000 := by omega) : Calls Tryz.prog 181 #[.string s, .int .i64 x] w (Ret (fun _ : Unit => .tuple #[.int .i64 (((rowOf c.rows x).1 : Nat) : Int), .int .i64 (((rowOf c.rows x).2 : Nat) : Int)]) (fun _ => []) w) := by
  obtain ⟨n, p, h1, h2, h3⟩ := clsA_parts hc
  have b2 := numA_le h2
  dsimp only at b2
  have hre : reI (rowA (bn s) 0) = ((c.hd : Nat) : Int) := by rw [h1]; rfl
  have hhd : ∀ w, Calls Tryz.prog 125 #[.string s] w (Ret (fun _ : Unit => .int .i64 ((c.hd : Nat) : Int)) (fun _ => []) w) := fun w => by rw [← hre]; exact c_l6Head w
  have b1 := rowA_le h1
  dsimp only at b1
  refine enter (args := _) Tryz.func181 rfl Tryz.ntmps181 (by simp) ?_
  repeat' (first | refine E.st ?_ | refine E.cl (h := fun _ w _ => hhd w) (k := ?_) | refine E.cl (h := fun _ w _ => c_s_NumAt_s w h2) (k := ?_)  | refine E.q3 ?_ | refine E.q ?_ | refine E.qs ?_ | refine E.q2 ?_ | refine E.q4 ?_ | refine E.tr ?_ | refine E.ap (fun _ _ => ?_) | refine E.b1 (fun _ _ => ?_) | refine E.b0 (fun _ _ => ?_) | refine E.bsn (fun _ _ => ?_) | refine E.mk (fun _ _ => ?_) | refine E.bxO (fun _ => ?_) | refine E.al (fun _ => ?_) | refine E.sbO ?_ | refine E.dq ?_ | refine E.ct ?_ | refine E.cf ?_ | refine E.cs (fun hh => ?_) (fun hh => ?_) | refine E.at_block_other rfl ?_)
  refine lq (fun z : Nat × Nat × List Rw => z.1 ≤ n ∧ z.2.1 ≤ s.size ∧ rowsA (bn s) (n - z.1) z.2.1 = some (z.2.2, (bn s).length) ∧ rowOf c.rows x = rowOf z.2.2 x) (fun z => [(9, .pl (.int .i64 (z.1 : Int))), (7, .pl (.int .i64 ((z.2.1 : Nat) : Int)))]) (fun z => ([] : List Ck)) (fun z => n - z.1) (0, p, c.rows) ⟨Nat.zero_le _, by dsimp only; omega, h3, rfl⟩ (fun z hz => ?_)
  obtain ⟨i, q, rest⟩ := z
  obtain ⟨hi, hq, hG, hO⟩ := hz
  dsimp only at hi hq hG hO ⊢
  rcases Nat.lt_or_ge i n with hlt | hge
  · rw [show n - i = (n - (i + 1)) + 1 from by omega] at hG
    obtain ⟨cc, p1, row, p2, rest', e1, e2, e3, e4⟩ := rowsA_some hG
    have b3 := numA_le e1
    have b4 := rowA_le e2
    dsimp only at b3 b4
    by_cases hx : (cc : Int) = x
    · have hO2 : rowOf c.rows x = (q, p2) := by rw [hO, e4]; unfold rowOf; rw [List.find?_cons_of_pos (by simpa using hx)]
      rw [hO2]
      repeat' (first | refine E.st ?_ | refine E.cl (h := fun _ w _ => c_s_NumAt_s w e1) (k := ?_) | refine E.cm (h := fun w _ => c_s_RowAt_s w e2) (k := fun z => ?_) | refine E.q3 ?_ | refine E.q ?_ | refine E.qs ?_ | refine E.q2 ?_ | refine E.q4 ?_ | refine E.tr ?_ | refine E.ap (fun _ _ => ?_) | refine E.b1 (fun _ _ => ?_) | refine E.b0 (fun _ _ => ?_) | refine E.bsn (fun _ _ => ?_) | refine E.mk (fun _ _ => ?_) | refine E.bxO (fun _ => ?_) | refine E.al (fun _ => ?_) | refine E.sbO ?_ | refine E.dq ?_ | refine E.ct ?_ | refine E.cf ?_ | refine E.cs (fun hh => ?_) (fun hh => ?_) | refine E.at_block_other rfl ?_)
      exact rn ()
    · have hO2 : rowOf c.rows x = rowOf rest' x := by rw [hO, e4]; unfold rowOf; rw [List.find?_cons_of_neg (by simpa using hx)]
      repeat' (first | refine E.st ?_ | refine E.cl (h := fun _ w _ => c_s_NumAt_s w e1) (k := ?_) | refine E.cm (h := fun w _ => c_s_RowAt_s w e2) (k := fun z => ?_) | refine E.q3 ?_ | refine E.q ?_ | refine E.qs ?_ | refine E.q2 ?_ | refine E.q4 ?_ | refine E.tr ?_ | refine E.ap (fun _ _ => ?_) | refine E.b1 (fun _ _ => ?_) | refine E.b0 (fun _ _ => ?_) | refine E.bsn (fun _ _ => ?_) | refine E.mk (fun _ _ => ?_) | refine E.bxO (fun _ => ?_) | refine E.al (fun _ => ?_) | refine E.sbO ?_ | refine E.dq ?_ | refine E.ct ?_ | refine E.cf ?_ | refine E.cs (fun hh => ?_) (fun hh => ?_) | refine E.at_block_other rfl ?_)
      exact rd (α := Nat × Nat × List Rw) (i + 1, p2, rest') ⟨by dsimp only; omega, by dsimp only; omega, e3, hO2⟩
  · rw [show n - i = 0 from by omega] at hG
    simp only [rowsA, Option.some.injEq, Prod.mk.injEq] at hG
    have hO2 : rowOf c.rows x = (0, 0) := by rw [hO, ← hG.1]; rfl
    rw [hO2]
    repeat' (first | refine E.st ?_ | refine E.q3 ?_ | refine E.q ?_ | refine E.qs ?_ | refine E.q2 ?_ | refine E.q4 ?_ | refine E.tr ?_ | refine E.ap (fun _ _ => ?_) | refine E.b1 (fun _ _ => ?_) | refine E.b0 (fun _ _ => ?_) | refine E.bsn (fun _ _ => ?_) | refine E.mk (fun _ _ => ?_) | refine E.bxO (fun _ => ?_) | refine E.al (fun _ => ?_) | refine E.sbO ?_ | refine E.dq ?_ | refine E.ct ?_ | refine E.cf ?_ | refine E.cs (fun hh => ?_) (fun hh => ?_) | refine E.at_block_other rfl ?_)
    exact rn ()
end E
end Go.Proofs.YtpiiapoafmnhhaaGreat
/- Pages that cover bytes, both sides. -/
namespace Go.Proofs.YtpiiapoafmnhhaaGreat
namespace E
open Go Go.RowKit
set_option linter.unusedSimpArgs false
set_option linter.unusedVariables false
set_option maxHeartbeats 1000000
set_option maxRecDepth 10000
attribute [local irreducible] HC HL HQ HX HO At Y YV Opd Opds KnX Sl Ld Src GV RV Calls Code.wp eptr adr RdF ownF OneX HG LdC
def spanF (a : Int) (fr n : Nat) : List Pg := (List.range' fr n).map (fun (k : Nat) => (⟨a, (k : Int)⟩ : Pg))
theorem spanF_snoc (a : Int) (fr n : Nat) : spanF a fr (n + 1) = spanF a fr n ++ [⟨a, ((fr + n : Nat) : Int)⟩] := by
  unfold spanF
  rw [List.range'_concat]
  simp
theorem spanF_len (a : Int) (fr n : Nat) : (spanF a fr n).length = n := by simp [spanF]
theorem c_s_PageSpan {a : Int} {fr to : Nat} (w : World) (h1 : fr ≤ 100000000 := by omega) (h2 : to ≤ 100000000 := by omega) : Calls Tryz.prog 124 #[.int .i64 a, .int .i64 (fr : Int), .int .i64 (to : Int)] w (Ret (fun s : Sv => .slice s.a s.n s.c) (fun s => [ownF 63 (.slice s.a s.n s.c) (spanL a fr to)]) w) := by
  refine calls_sv ?_
  have hq : IntKind.i64.wrap ((fr : Int).tdiv 8) = ((fr / 8 : Nat) : Int) := by
    rw [Int.tdiv_eq_ediv_of_nonneg (by omega), wrap_i64_of (by omega)]; omega
  by_cases hc : lok a = true ∧ fr < to ∧ to ≤ 8000
  · have hs : spanL a fr to = spanF a (fr / 8) ((to + 7) / 8 - fr / 8) := if_pos hc
    have hlo : ∀ w, Calls Tryz.prog 61 #[.int .i64 a] w (Ret (fun _ : Unit => .bool true) (fun _ => []) w) := fun w => by rw [← hc.1]; exact c_s_LabelOk w
    rw [hs]
    refine enter (args := _) Tryz.func124 rfl Tryz.ntmps124 (by simp) ?_
    repeat' (first | refine E.st ?_ | refine E.cl (h := fun _ w _ => hlo w) (k := ?_) | refine E.b0 (α := Pg) (fun v0 h0 => ?_) | refine E.q3 ?_ | refine E.q ?_ | refine E.qs ?_ | refine E.q2 ?_ | refine E.q4 ?_ | refine E.tr ?_ | refine E.ap (fun _ _ => ?_) | refine E.b1 (fun _ _ => ?_) | refine E.b0 (fun _ _ => ?_) | refine E.bsn (fun _ _ => ?_) | refine E.mk (fun _ _ => ?_) | refine E.bxO (fun _ => ?_) | refine E.al (fun _ => ?_) | refine E.sbO ?_ | refine E.dq ?_ | refine E.ct ?_ | refine E.cf ?_ | refine E.cs (fun hh => ?_) (fun hh => ?_) | refine E.at_block_other rfl ?_)
    refine lq (fun p : Nat × { v' : Value // v'.oneCell' = true } => fr / 8 + p.1 ≤ (to + 7) / 8) (fun p => [(8, .pl (.int .i64 ((fr / 8 + p.1 : Nat) : Int))), (7, .pl p.2.1)]) (fun p => [ownF 63 p.2.1 (spanF a (fr / 8) p.1)]) (fun p => (to + 7) / 8 - fr / 8 - p.1) (0, ⟨v0, h0⟩) (by dsimp only; omega) (fun p hp => ?_) (hF := by exact FSub.int rfl (by rw [hq]; rfl) (FSub.cons rfl FSub.nil))
    obtain ⟨k, ⟨v7, h7⟩⟩ := p
    dsimp only at hp h7 ⊢
    have hsl := spanF_len a (fr / 8) k
    have hsn := spanF_snoc a (fr / 8) k
    rcases Nat.lt_or_ge (fr / 8 + k) ((to + 7) / 8) with hlt | hge
    · repeat' (first | refine E.st ?_ | refine E.q3 ?_ | refine E.q ?_ | refine E.qs ?_ | refine E.q2 ?_ | refine E.q4 ?_ | refine E.tr ?_ | refine E.ap (fun _ _ => ?_) | refine E.b1 (fun _ _ => ?_) | refine E.b0 (fun _ _ => ?_) | refine E.bsn (fun _ _ => ?_) | refine E.mk (fun _ _ => ?_) | refine E.bxO (fun _ => ?_) | refine E.al (fun _ => ?_) | refine E.sbO ?_ | refine E.dq ?_ | refine E.ct ?_ | refine E.cf ?_ | refine E.cs (fun hh => ?_) (fun hh => ?_) | refine E.at_block_other rfl ?_)
      refine rd (α := Nat × { v' : Value // v'.oneCell' = true }) (k + 1, ⟨_, ?_⟩) (by dsimp only; omega) (by dsimp only; omega) (hK := KSub.ownF pk hsn.symm ks)
      assumption
    · have hk : k = (to + 7) / 8 - fr / 8 := by omega
      subst hk
      repeat' (first | refine E.st ?_ | refine E.q3 ?_ | refine E.q ?_ | refine E.qs ?_ | refine E.q2 ?_ | refine E.q4 ?_ | refine E.tr ?_ | refine E.ap (fun _ _ => ?_) | refine E.b1 (fun _ _ => ?_) | refine E.b0 (fun _ _ => ?_) | refine E.bsn (fun _ _ => ?_) | refine E.mk (fun _ _ => ?_) | refine E.bxO (fun _ => ?_) | refine E.al (fun _ => ?_) | refine E.sbO ?_ | refine E.dq ?_ | refine E.ct ?_ | refine E.cf ?_ | refine E.cs (fun hh => ?_) (fun hh => ?_) | refine E.at_block_other rfl ?_)
      exact r1 _
  · have hs : spanL a fr to = [] := if_neg hc
    rw [hs]
    cases hl : lok a with
    | true =>
      have hlo : ∀ w, Calls Tryz.prog 61 #[.int .i64 a] w (Ret (fun _ : Unit => .bool true) (fun _ => []) w) := fun w => by rw [← hl]; exact c_s_LabelOk w
      have hc2 : ¬ (fr < to ∧ to ≤ 8000) := fun h => hc ⟨hl, h⟩
      refine enter (args := _) Tryz.func124 rfl Tryz.ntmps124 (by simp) ?_
      repeat' (first | refine E.st ?_ | refine E.cl (h := fun _ w _ => hlo w) (k := ?_) | refine E.q3 ?_ | refine E.q ?_ | refine E.qs ?_ | refine E.q2 ?_ | refine E.q4 ?_ | refine E.tr ?_ | refine E.ap (fun _ _ => ?_) | refine E.b1 (fun _ _ => ?_) | refine E.b0 (fun _ _ => ?_) | refine E.bsn (fun _ _ => ?_) | refine E.mk (fun _ _ => ?_) | refine E.bxO (fun _ => ?_) | refine E.al (fun _ => ?_) | refine E.sbO ?_ | refine E.dq ?_ | refine E.ct ?_ | refine E.cf ?_ | refine E.cs (fun hh => ?_) (fun hh => ?_) | refine E.at_block_other rfl ?_)
      all_goals first
        | exact r1 _
        | (exfalso; simp_all; omega)
        | (exfalso; omega)
    | false =>
      have hlo : ∀ w, Calls Tryz.prog 61 #[.int .i64 a] w (Ret (fun _ : Unit => .bool false) (fun _ => []) w) := fun w => by rw [← hl]; exact c_s_LabelOk w
      refine enter (args := _) Tryz.func124 rfl Tryz.ntmps124 (by simp) ?_
      repeat' (first | refine E.st ?_ | refine E.cl (h := fun _ w _ => hlo w) (k := ?_) | refine E.q3 ?_ | refine E.q ?_ | refine E.qs ?_ | refine E.q2 ?_ | refine E.q4 ?_ | refine E.tr ?_ | refine E.ap (fun _ _ => ?_) | refine E.b1 (fun _ _ => ?_) | refine E.b0 (fun _ _ => ?_) | refine E.bsn (fun _ _ => ?_) | refine E.mk (fun _ _ => ?_) | refine E.bxO (fun _ => ?_) | refine E.al (fun _ => ?_) | refine E.sbO ?_ | refine E.dq ?_ | refine E.ct ?_ | refine E.cf ?_ | refine E.cs (fun hh => ?_) (fun hh => ?_) | refine E.at_block_other rfl ?_)
      all_goals first
        | exact r1 _
        | (exfalso; simp_all; done)
theorem c_i_PageSpan {a : Int} {fr to : Nat} (w : World) (h1 : fr ≤ 100000000 := by omega) (h2 : to ≤ 100000000 := by omega) : Calls Tryz.prog 128 #[.int .i64 a, .int .i64 (fr : Int), .int .i64 (to : Int)] w (Ret (fun s : Sv => .slice s.a s.n s.c) (fun s => [ownF 63 (.slice s.a s.n s.c) (spanL a fr to)]) w) := by
  refine calls_sv ?_
  have hq : IntKind.i64.wrap ((fr : Int).tdiv 8) = ((fr / 8 : Nat) : Int) := by
    rw [Int.tdiv_eq_ediv_of_nonneg (by omega), wrap_i64_of (by omega)]; omega
  by_cases hc : lok a = true ∧ fr < to ∧ to ≤ 8000
  · have hs : spanL a fr to = spanF a (fr / 8) ((to + 7) / 8 - fr / 8) := if_pos hc
    have hlo : ∀ w, Calls Tryz.prog 34 #[.int .i64 a] w (Ret (fun _ : Unit => .bool true) (fun _ => []) w) := fun w => by rw [← hc.1]; exact c_i_LabelOk w
    have hq2 : IntKind.i64.wrap (((to : Int) - 1).tdiv 8) = (((to + 7) / 8 : Nat) : Int) - 1 := by
      rw [Int.tdiv_eq_ediv_of_nonneg (by omega), wrap_i64_of (by omega)]; omega
    rw [hs]
    refine enter (args := _) Tryz.func128 rfl Tryz.ntmps128 (by simp) ?_
    refine E.nl 63 (α := Pg) ?_
    repeat' (first | refine E.st ?_ | refine E.cl (h := fun _ w _ => hlo w) (k := ?_) | refine E.q3 ?_ | refine E.q ?_ | refine E.qs ?_ | refine E.q2 ?_ | refine E.q4 ?_ | refine E.tr ?_ | refine E.ap (fun _ _ => ?_) | refine E.b1 (fun _ _ => ?_) | refine E.b0 (fun _ _ => ?_) | refine E.bsn (fun _ _ => ?_) | refine E.mk (fun _ _ => ?_) | refine E.bxO (fun _ => ?_) | refine E.al (fun _ => ?_) | refine E.sbO ?_ | refine E.dq ?_ | refine E.ct ?_ | refine E.cf ?_ | refine E.cs (fun hh => ?_) (fun hh => ?_) | refine E.at_block_other rfl ?_)
    refine lq (fun p : Nat × { v' : Value // v'.oneCell' = true } => fr / 8 + p.1 ≤ (to + 7) / 8) (fun p => [(8, .pl (.int .i64 ((fr / 8 + p.1 : Nat) : Int))), (7, .pl p.2.1)]) (fun p => [ownF 63 p.2.1 (spanF a (fr / 8) p.1)]) (fun p => (to + 7) / 8 - fr / 8 - p.1) (0, ⟨.slice none 0 0, rfl⟩) (by dsimp only; omega) (fun p hp => ?_) (hF := by exact FSub.int rfl (by rw [hq]; rfl) (FSub.cons rfl FSub.nil))
    obtain ⟨k, ⟨v7, h7⟩⟩ := p
    dsimp only at hp h7 ⊢
    have hsl := spanF_len a (fr / 8) k
    have hsn := spanF_snoc a (fr / 8) k
    rcases Nat.lt_or_ge (fr / 8 + k) ((to + 7) / 8) with hlt | hge
    · repeat' (first | refine E.st ?_ | refine E.q3 ?_ | refine E.q ?_ | refine E.qs ?_ | refine E.q2 ?_ | refine E.q4 ?_ | refine E.tr ?_ | refine E.ap (fun _ _ => ?_) | refine E.b1 (fun _ _ => ?_) | refine E.b0 (fun _ _ => ?_) | refine E.bsn (fun _ _ => ?_) | refine E.mk (fun _ _ => ?_) | refine E.bxO (fun _ => ?_) | refine E.al (fun _ => ?_) | refine E.sbO ?_ | refine E.dq ?_ | refine E.ct ?_ | refine E.cf ?_ | refine E.cs (fun hh => ?_) (fun hh => ?_) | refine E.at_block_other rfl ?_)
      all_goals first
        | exact rd (α := Nat × { v' : Value // v'.oneCell' = true }) (k + 1, ⟨_, by assumption⟩) (by dsimp only; omega) (by dsimp only; omega) (hK := KSub.ownF pk hsn.symm ks)
        | (exfalso; simp only [hq2] at *; omega)
        | trace_state
    · have hk : k = (to + 7) / 8 - fr / 8 := by omega
      subst hk
      repeat' (first | refine E.st ?_ | refine E.q3 ?_ | refine E.q ?_ | refine E.qs ?_ | refine E.q2 ?_ | refine E.q4 ?_ | refine E.tr ?_ | refine E.ap (fun _ _ => ?_) | refine E.b1 (fun _ _ => ?_) | refine E.b0 (fun _ _ => ?_) | refine E.bsn (fun _ _ => ?_) | refine E.mk (fun _ _ => ?_) | refine E.bxO (fun _ => ?_) | refine E.al (fun _ => ?_) | refine E.sbO ?_ | refine E.dq ?_ | refine E.ct ?_ | refine E.cf ?_ | refine E.cs (fun hh => ?_) (fun hh => ?_) | refine E.at_block_other rfl ?_)
      all_goals first
        | exact r1 _
        | (exfalso; simp only [hq2] at *; omega)
        | trace_state
  · have hs : spanL a fr to = [] := if_neg hc
    rw [hs]
    cases hl : lok a with
    | true =>
      have hlo : ∀ w, Calls Tryz.prog 34 #[.int .i64 a] w (Ret (fun _ : Unit => .bool true) (fun _ => []) w) := fun w => by rw [← hl]; exact c_i_LabelOk w
      have hc2 : ¬ (fr < to ∧ to ≤ 8000) := fun h => hc ⟨hl, h⟩
      refine enter (args := _) Tryz.func128 rfl Tryz.ntmps128 (by simp) ?_
      refine E.nl 63 (α := Pg) ?_
      repeat' (first | refine E.st ?_ | refine E.cl (h := fun _ w _ => hlo w) (k := ?_) | refine E.q3 ?_ | refine E.q ?_ | refine E.qs ?_ | refine E.q2 ?_ | refine E.q4 ?_ | refine E.tr ?_ | refine E.ap (fun _ _ => ?_) | refine E.b1 (fun _ _ => ?_) | refine E.b0 (fun _ _ => ?_) | refine E.bsn (fun _ _ => ?_) | refine E.mk (fun _ _ => ?_) | refine E.bxO (fun _ => ?_) | refine E.al (fun _ => ?_) | refine E.sbO ?_ | refine E.dq ?_ | refine E.ct ?_ | refine E.cf ?_ | refine E.cs (fun hh => ?_) (fun hh => ?_) | refine E.at_block_other rfl ?_)
      all_goals first
        | exact r1 _
        | (exfalso; simp_all; omega)
        | (exfalso; omega)
    | false =>
      have hlo : ∀ w, Calls Tryz.prog 34 #[.int .i64 a] w (Ret (fun _ : Unit => .bool false) (fun _ => []) w) := fun w => by rw [← hl]; exact c_i_LabelOk w
      refine enter (args := _) Tryz.func128 rfl Tryz.ntmps128 (by simp) ?_
      refine E.nl 63 (α := Pg) ?_
      repeat' (first | refine E.st ?_ | refine E.cl (h := fun _ w _ => hlo w) (k := ?_) | refine E.q3 ?_ | refine E.q ?_ | refine E.qs ?_ | refine E.q2 ?_ | refine E.q4 ?_ | refine E.tr ?_ | refine E.ap (fun _ _ => ?_) | refine E.b1 (fun _ _ => ?_) | refine E.b0 (fun _ _ => ?_) | refine E.bsn (fun _ _ => ?_) | refine E.mk (fun _ _ => ?_) | refine E.bxO (fun _ => ?_) | refine E.al (fun _ => ?_) | refine E.sbO ?_ | refine E.dq ?_ | refine E.ct ?_ | refine E.cf ?_ | refine E.cs (fun hh => ?_) (fun hh => ?_) | refine E.at_block_other rfl ?_)
      all_goals first
        | exact r1 _
        | (exfalso; simp_all; done)
end E
end Go.Proofs.YtpiiapoafmnhhaaGreat
/- The pages that have a node's rows, as the reference says them. -/
namespace Go.Proofs.YtpiiapoafmnhhaaGreat
namespace E
open Go Go.RowKit
set_option linter.unusedSimpArgs false
set_option linter.unusedVariables false
set_option maxHeartbeats 1000000
set_option maxRecDepth 10000
attribute [local irreducible] HC HL HQ HX HO At Y YV Opd Opds KnX Sl Ld Src GV RV Calls Code.wp eptr adr RdF ownF OneX HG LdC
theorem memO {α : Type} {k : α} {K : List α} (h : k ∈ K := by (repeat (first | exact List.mem_cons_self | apply List.mem_cons_of_mem)); first | done | fail) : k ∈ K := h
/-- What is told of a label's bytes that can be read. -/
def SgOk (s : Sg) : Prop := ∃ c, clsA (bn s.b) = some c ∧ s.b.size ≤ 8000 ∧ c.hd ≤ 8000 ∧ ∀ x, (rowOf c.rows x).1 ≤ 8000 ∧ (rowOf c.rows x).2 ≤ 8000
theorem SgOk.of {g : Gr} (h : g.ok) {s : Sg} (hs : s ∈ storeL g) : SgOk s := by
  obtain ⟨h1, h2, h3, h4⟩ := clsA_mem h hs
  have hh := hd_in h hs
  refine ⟨_, h1, by rw [← bn_len]; exact hh.2.2, ?_, fun x => ?_⟩
  · have := hh.2.1
    unfold hdS at this
    rw [h1] at this
    dsimp only at this
    omega
  · have := row_in h hs x
    unfold rowS at this
    rw [h1] at this
    dsimp only at this
    omega
theorem spanL_len (a : Int) (fr to : Nat) : (spanL a fr to).length ≤ 1000 := by
  unfold spanL
  split
  · rw [List.length_map, List.length_range']; omega
  · simp
theorem fl_len {α β : Type} {f : α → List β} {m : Nat} (h : ∀ x, (f x).length ≤ m) : ∀ xs : List α, (xs.flatMap f).length ≤ m * xs.length
  | [] => by simp
  | x :: xs => by
    have h1 := h x
    have h2 := fl_len h xs
    simp only [List.flatMap_cons, List.length_append, List.length_cons]
    rw [Nat.mul_add, Nat.mul_one]
    omega
theorem fl_step {α β : Type} {f : α → List β} {xs : List α} {k : Nat} {x : α} (h : xs[k]? = some x) : (xs.take (k + 1)).flatMap f = (xs.take k).flatMap f ++ f x := by
  rw [List.take_add_one, h, List.flatMap_append]
  simp
def spanR (c : Int) (s : Sg) : List Pg := spanL s.l (rowS s c).1 (rowS s c).2
theorem nodeS_eq (xs : List Sg) (n : Nd) : nodeS xs n = xs.flatMap (spanR (cd n)) := rfl
theorem c_l6Near {v : Value} {xs : List Sg} {a n : Int} (w : World) (hs : ∀ s ∈ xs, SgOk s) (hl : xs.length ≤ 8) (hr : RdF w v xs := by exact rdA) : Calls Tryz.prog 127 #[v, .agg #[.int .i64 a, .int .i64 n]] w (Ret (fun s : Sv => .slice s.a s.n s.c) (fun s => [ownF 63 (.slice s.a s.n s.c) (xs.flatMap (spanR (cd ⟨a, n⟩)))]) w) := by
  refine calls_sv ?_
  have o1 := hr.one
  refine enter (args := _) Tryz.func127 rfl Tryz.ntmps127 (by simp) ?_
  repeat' (first | refine E.st ?_ | refine E.b0 (α := Pg) (fun v0 h0 => ?_) | refine E.q3 ?_ | refine E.q ?_ | refine E.qs ?_ | refine E.q2 ?_ | refine E.q4 ?_ | refine E.tr ?_ | refine E.ap (fun _ _ => ?_) | refine E.b1 (fun _ _ => ?_) | refine E.b0 (fun _ _ => ?_) | refine E.bsn (fun _ _ => ?_) | refine E.mk (fun _ _ => ?_) | refine E.bxO (fun _ => ?_) | refine E.al (fun _ => ?_) | refine E.sbO ?_ | refine E.dq ?_ | refine E.ct ?_ | refine E.cf ?_ | refine E.cs (fun hh => ?_) (fun hh => ?_) | refine E.at_block_other rfl ?_)
  refine lq (fun p : Nat × V1 => p.1 ≤ xs.length) (fun p => [(6, .pl (.int .i64 (p.1 : Int))), (5, .pl p.2.1)]) (fun p => [ownF 63 p.2.1 ((xs.take p.1).flatMap (spanR (cd ⟨a, n⟩)))]) (fun p => xs.length - p.1) (0, ⟨v0, h0⟩) (Nat.zero_le _) (fun p hp => ?_)
  obtain ⟨k, ⟨v5, h5⟩⟩ := p
  dsimp only at hp h5 ⊢
  have hfl := fl_len (f := spanR (cd ⟨a, n⟩)) (m := 1000) (fun s => spanL_len _ _ _) (xs.take k)
  have htl : (xs.take k).length ≤ k := List.length_take_le _ _
  rcases Nat.lt_or_ge k xs.length with hlt | hge
  · obtain ⟨⟨sl, sb⟩, hx⟩ := get_lt hlt
    obtain ⟨c, hc, hz1, hz2, hz3⟩ := hs _ (List.mem_of_getElem? hx)
    dsimp only at hc hz1
    have hz4 := hz3 (cd ⟨a, n⟩)
    have hst := fl_step (f := spanR (cd ⟨a, n⟩)) hx
    have hsp : spanR (cd ⟨a, n⟩) ⟨sl, sb⟩ = spanL sl (rowOf c.rows (cd ⟨a, n⟩)).1 (rowOf c.rows (cd ⟨a, n⟩)).2 := by simp only [spanR, rowS, hc]
    rw [hsp] at hst
    have hsl := spanL_len sl (rowOf c.rows (cd ⟨a, n⟩)).1 (rowOf c.rows (cd ⟨a, n⟩)).2
    repeat' (first | refine E.st ?_ | refine E.dx (i := 5) [0, 1, 2, 3, 4, 5, 6, 7, 8, 9, 10, 11, 12] ?_ | refine E.cl (h := fun _ w _ => c_s_l2Code w) (k := ?_) | refine E.cl (h := fun _ w _ => c_l6Row w hc) (k := ?_) | refine E.cm (h := fun w _ => c_s_PageSpan w) (k := fun z => ?_) | refine E.apI (hs := RdIn.own memO) (hr := fun v9 h9 => ?_) | refine E.q3 ?_ | refine E.q ?_ | refine E.qs ?_ | refine E.q2 ?_ | refine E.q4 ?_ | refine E.tr ?_ | refine E.ap (fun _ _ => ?_) | refine E.b1 (fun _ _ => ?_) | refine E.b0 (fun _ _ => ?_) | refine E.bsn (fun _ _ => ?_) | refine E.mk (fun _ _ => ?_) | refine E.bxO (fun _ => ?_) | refine E.al (fun _ => ?_) | refine E.sbO ?_ | refine E.dq ?_ | refine E.ct ?_ | refine E.cf ?_ | refine E.cs (fun hh => ?_) (fun hh => ?_) | refine E.at_block_other rfl ?_)
    exact rd (α := Nat × V1) (k + 1, ⟨_, by assumption⟩) hlt (hK := KSub.ownF pk hst.symm ksv)
  · rw [List.take_of_length_le hge]
    repeat' (first | refine E.st ?_ | refine E.q3 ?_ | refine E.q ?_ | refine E.qs ?_ | refine E.q2 ?_ | refine E.q4 ?_ | refine E.tr ?_ | refine E.ap (fun _ _ => ?_) | refine E.b1 (fun _ _ => ?_) | refine E.b0 (fun _ _ => ?_) | refine E.bsn (fun _ _ => ?_) | refine E.mk (fun _ _ => ?_) | refine E.bxO (fun _ => ?_) | refine E.al (fun _ => ?_) | refine E.sbO ?_ | refine E.dq ?_ | refine E.ct ?_ | refine E.cf ?_ | refine E.cs (fun hh => ?_) (fun hh => ?_) | refine E.at_block_other rfl ?_)
    exact r1 _
end E
end Go.Proofs.YtpiiapoafmnhhaaGreat
/- spec.l6Wave, l6Order: the nodes whose rows are read. -/
namespace Go.Proofs.YtpiiapoafmnhhaaGreat
namespace E
open Go Go.RowKit
set_option linter.unusedSimpArgs false
set_option linter.unusedVariables false
set_option maxHeartbeats 1000000
set_option maxRecDepth 10000
attribute [local irreducible] HC HL HQ HX HO At Y YV Opd Opds KnX Sl Ld Src GV RV Calls Code.wp eptr adr RdF ownF OneX HG LdC
theorem ndL_mem {ns : List Nd} {is : List Nat} {y : Nd} (hn : ns.Nodup) (hlt : ∀ i ∈ is, i < ns.length) (hy : y ∈ ns) : y ∈ ndL ns is ↔ plc ns y ∈ is := by
  unfold ndL
  rw [List.mem_map]
  have hp := plc_ok hy
  constructor
  · rintro ⟨i, hi, e⟩
    have h1 := getD_at (d := (⟨0, 0⟩ : Nd)) (hlt i hi)
    rw [e] at h1
    rw [plc_at hn h1]; exact hi
  · intro h
    exact ⟨_, h, by rw [List.getD_eq_getElem?_getD, hp.2.1]; rfl⟩
theorem ndL_fm {ns : List Nd} {is : List Nat} (hlt : ∀ i ∈ is, i < ns.length) : is.filterMap (fun i => ns[i]?) = ndL ns is := by
  induction is with
  | nil => rfl
  | cons i is ih =>
    have h1 := getD_at (d := (⟨0, 0⟩ : Nd)) (hlt i List.mem_cons_self)
    rw [List.filterMap_cons_some h1, ih (fun j hj => hlt j (List.mem_cons_of_mem _ hj))]
    rfl
theorem wave_eq {g : Gr} {x : Nd} (hg : g.ok) (hm : x ∈ g.ns) : waveL g x = ndL g.ns (bfs (adjL g) g.ns.length (plc g.ns x)).mt := by
  unfold waveL
  rw [if_pos hm]
  exact ndL_fm (BI.bfs (AOk.of hg) (plc_ok hm).2.2).lt
theorem c_l6Wave {v u : Value} {g : Gr} {l n : Int} (w : World) (hg : g.ok) (hr : RdF w v g.ns := by exact rdA) (hq : RdF w u g.es := by exact rdA) :
    Calls Tryz.prog 180 #[.agg #[v, u], .agg #[.int .i64 l, .int .i64 n]] w (Ret (fun z : V1 => z.1) (fun z => [ownF 32 z.1 (waveL g ⟨l, n⟩)]) w) := by
  have o1 := hr.one
  have o2 := hq.one
  by_cases hm : (⟨l, n⟩ : Nd) ∈ g.ns
  · have hnl := hg.1.len
    have hel := hg.2.len
    have hA := AOk.of hg
    have hp := plc_ok hm
    have he : ∀ e ∈ g.es, eok e = true := fun e h => (hg.2.1 e h).1
    have hB0 := BI.zero hp.2.2
    have hmt0 : [⟨l, n⟩] = ndL g.ns (bf0 g.ns.length (plc g.ns ⟨l, n⟩)).mt := by
      have := ndL_snoc (is := []) hp.2.1
      exact this.symm
    rw [wave_eq hg hm]
    have hpn : ¬ ((plc g.ns ⟨l, n⟩ : Nat) : Int) < 0 := by omega
    refine enter (args := _) Tryz.func180 rfl Tryz.ntmps180 (by simp) ?_
    repeat' (first | refine E.st ?_ | refine E.cl (h := fun _ w _ => c_l2At_m w hm) (k := ?_) | refine E.b1 (α := Nd) (fun v5 h5 => ?_) | refine E.q3 ?_ | refine E.q ?_ | refine E.qs ?_ | refine E.q2 ?_ | refine E.q4 ?_ | refine E.tr ?_ | refine E.ap (fun _ _ => ?_) | refine E.b1 (fun _ _ => ?_) | refine E.b0 (fun _ _ => ?_) | refine E.bsn (fun _ _ => ?_) | refine E.mk (fun _ _ => ?_) | refine E.bxO (fun _ => ?_) | refine E.al (fun _ => ?_) | refine E.sbO ?_ | refine E.dq ?_ | refine E.ct ?_ | refine E.cf ?_ | refine E.cs (fun hh => ?_) (fun hh => ?_) | refine E.at_block_other rfl ?_)
    refine lq (fun z : (Nat × Bf) × V1 => (BI g.ns.length (plc g.ns ⟨l, n⟩) z.1.2 ∧ z.1.1 ≤ z.1.2.mt.length) ∧ bfGo (adjL g) (g.ns.length - z.1.1) z.1.1 z.1.2 = bfs (adjL g) g.ns.length (plc g.ns ⟨l, n⟩)) (fun z => [(6, .pl (.int .i64 (z.1.1 : Int))), (5, .pl z.2.1)]) (fun z => [ownF 32 z.2.1 (ndL g.ns z.1.2.mt)]) (fun z => g.ns.length - z.1.1) ((0, bf0 g.ns.length (plc g.ns ⟨l, n⟩)), ⟨v5, h5⟩) ⟨⟨hB0, Nat.zero_le _⟩, rfl⟩ (fun z hz => ?_) (hK := Spl.ownF pk (by rw [hmt0]) (Spl.nil _))
    obtain ⟨⟨k, s⟩, ⟨v7, h7⟩⟩ := z
    obtain ⟨⟨hB, hk⟩, hgo⟩ := hz
    dsimp only at hB hk hgo h7 ⊢
    have hml := hB.mlen
    have hl7 : (ndL g.ns s.mt).length = s.mt.length := ndL_len
    rcases Nat.lt_or_ge k s.mt.length with hlt | hge2
    · obtain ⟨i, hi⟩ := get_lt hlt
      have hat := hB.at hi
      obtain ⟨⟨xl, xn⟩, hx⟩ := get_lt hat.1
      have hx7 := ndL_get hi hx
      have hadj := adj_get hx
      have hrow : (adjL g).getD i [] = (nearL g.es ⟨xl, xn⟩).map (plc g.ns) := by rw [List.getD_eq_getElem?_getD, hadj]; rfl
      have hnl2 := near_len g.es ⟨xl, xn⟩
      obtain ⟨S, hS0, hSs, hSB, hSe⟩ := row_walk hA hB hi
      rw [hrow] at hSs hSe
      have hgo2 : bfGo (adjL g) (g.ns.length - (k + 1)) (k + 1) (bfRow (adjL g) s i) = bfs (adjL g) g.ns.length (plc g.ns ⟨l, n⟩) := by
        rw [← hgo, show g.ns.length - k = (g.ns.length - (k + 1)) + 1 from by omega, bfGo_step hi]
      generalize s.st.getD i 0 = d at hSs
      repeat' (first | refine E.st ?_ | refine E.dx (i := 7) [0, 1, 2, 3, 4, 5, 6] ?_ | refine E.cm (h := fun w _ => c_l2Near w he (by omega)) (k := fun v9 => ?_) | refine E.q3 ?_ | refine E.q ?_ | refine E.qs ?_ | refine E.q2 ?_ | refine E.q4 ?_ | refine E.tr ?_ | refine E.ap (fun _ _ => ?_) | refine E.b1 (fun _ _ => ?_) | refine E.b0 (fun _ _ => ?_) | refine E.bsn (fun _ _ => ?_) | refine E.mk (fun _ _ => ?_) | refine E.bxO (fun _ => ?_) | refine E.al (fun _ => ?_) | refine E.sbO ?_ | refine E.dq ?_ | refine E.ct ?_ | refine E.cf ?_ | refine E.cs (fun hh => ?_) (fun hh => ?_) | refine E.at_block_other rfl ?_)
      refine lq (fun z : Nat × V1 => z.1 ≤ (nearL g.es ⟨xl, xn⟩).length) (fun z => [(8, .pl (.int .i64 (z.1 : Int))), (5, .pl z.2.1)]) (fun z => [ownF 32 z.2.1 (ndL g.ns (S z.1).mt)]) (fun z => (nearL g.es ⟨xl, xn⟩).length - z.1) (0, ⟨v7, h7⟩) (Nat.zero_le _) (fun z hz => ?_) (hK := Spl.ownF pk (by rw [hS0]) (Spl.nil _))
      obtain ⟨j, ⟨u7, g7⟩⟩ := z
      dsimp only at hz g7 ⊢
      obtain ⟨hBj, hlj⟩ := hSB j
      have hmj := hBj.mlen
      have hl8 : (ndL g.ns (S j).mt).length = (S j).mt.length := ndL_len
      rcases Nat.lt_or_ge j (nearL g.es ⟨xl, xn⟩).length with hlt3 | hge3
      · obtain ⟨⟨yl, yn⟩, hy⟩ := get_lt hlt3
        have hym := (near_mem_ns hg (List.mem_of_getElem? hy)).1
        have hpy := plc_ok hym
        have hstep := hSs j (plc g.ns ⟨yl, yn⟩) (by rw [List.getElem?_map, hy]; rfl)
        unfold bfIn at hstep
        have hsn := ndL_snoc (is := (S j).mt) hpy.2.1
        have hif := hBj.iff _ hpy.2.2
        have hmm := ndL_mem hg.1.nodup hBj.lt hym
        have hneg : pos (ndL g.ns (S j).mt) ⟨yl, yn⟩ < 0 ↔ (S j).st.getD (plc g.ns ⟨yl, yn⟩) 0 < 0 := by
          rw [pos_neg, hmm, ← hif]
          omega
        by_cases hc : pos (ndL g.ns (S j).mt) ⟨yl, yn⟩ < 0
        · rw [if_pos (hneg.1 hc)] at hstep
          repeat' (first | refine E.st ?_ | refine E.cl (h := fun _ w hw => c_s_l2At w (RdF.of_own memO hw)) (k := ?_) | refine E.q3 ?_ | refine E.q ?_ | refine E.qs ?_ | refine E.q2 ?_ | refine E.q4 ?_ | refine E.tr ?_ | refine E.ap (fun _ _ => ?_) | refine E.b1 (fun _ _ => ?_) | refine E.b0 (fun _ _ => ?_) | refine E.bsn (fun _ _ => ?_) | refine E.mk (fun _ _ => ?_) | refine E.bxO (fun _ => ?_) | refine E.al (fun _ => ?_) | refine E.sbO ?_ | refine E.dq ?_ | refine E.ct ?_ | refine E.cf ?_ | refine E.cs (fun hh => ?_) (fun hh => ?_) | refine E.at_block_other rfl ?_)
          all_goals first
            | (refine rd (α := Nat × V1) (j + 1, ⟨_, ?_⟩) hlt3 (hK := KSub.ownF pk (by rw [hstep]; exact hsn.symm) ks); assumption)
            | (exfalso; omega)
        · rw [if_neg (fun h => hc (hneg.2 h))] at hstep
          repeat' (first | refine E.st ?_ | refine E.cl (h := fun _ w hw => c_s_l2At w (RdF.of_own memO hw)) (k := ?_) | refine E.q3 ?_ | refine E.q ?_ | refine E.qs ?_ | refine E.q2 ?_ | refine E.q4 ?_ | refine E.tr ?_ | refine E.ap (fun _ _ => ?_) | refine E.b1 (fun _ _ => ?_) | refine E.b0 (fun _ _ => ?_) | refine E.bsn (fun _ _ => ?_) | refine E.mk (fun _ _ => ?_) | refine E.bxO (fun _ => ?_) | refine E.al (fun _ => ?_) | refine E.sbO ?_ | refine E.dq ?_ | refine E.ct ?_ | refine E.cf ?_ | refine E.cs (fun hh => ?_) (fun hh => ?_) | refine E.at_block_other rfl ?_)
          all_goals first
            | exact rd (α := Nat × V1) (j + 1, ⟨u7, g7⟩) hlt3 (hK := KSub.ownF pk (by rw [hstep]) ks)
            | (exfalso; omega)
      · repeat' (first | refine E.st ?_ | refine E.q3 ?_ | refine E.q ?_ | refine E.qs ?_ | refine E.q2 ?_ | refine E.q4 ?_ | refine E.tr ?_ | refine E.ap (fun _ _ => ?_) | refine E.b1 (fun _ _ => ?_) | refine E.b0 (fun _ _ => ?_) | refine E.bsn (fun _ _ => ?_) | refine E.mk (fun _ _ => ?_) | refine E.bxO (fun _ => ?_) | refine E.al (fun _ => ?_) | refine E.sbO ?_ | refine E.dq ?_ | refine E.ct ?_ | refine E.cf ?_ | refine E.cs (fun hh => ?_) (fun hh => ?_) | refine E.at_block_other rfl ?_)
        have hej := hSe j (by simpa using hge3)
        refine rd (α := (Nat × Bf) × V1) ((k + 1, bfRow (adjL g) s i), ⟨u7, g7⟩) ⟨⟨by rw [← hej]; exact hBj, by rw [← hej]; dsimp only; omega⟩, hgo2⟩ (by dsimp only; omega) (hK := KSub.ownF pk (by rw [hej]) ks)
    · repeat' (first | refine E.st ?_ | refine E.q3 ?_ | refine E.q ?_ | refine E.qs ?_ | refine E.q2 ?_ | refine E.q4 ?_ | refine E.tr ?_ | refine E.ap (fun _ _ => ?_) | refine E.b1 (fun _ _ => ?_) | refine E.b0 (fun _ _ => ?_) | refine E.bsn (fun _ _ => ?_) | refine E.mk (fun _ _ => ?_) | refine E.bxO (fun _ => ?_) | refine E.al (fun _ => ?_) | refine E.sbO ?_ | refine E.dq ?_ | refine E.ct ?_ | refine E.cf ?_ | refine E.cs (fun hh => ?_) (fun hh => ?_) | refine E.at_block_other rfl ?_)
      have hend : s = bfs (adjL g) g.ns.length (plc g.ns ⟨l, n⟩) := by rw [← hgo, bfGo_end _ _ _ hge2]
      refine r1 (α := V1) ⟨v7, h7⟩ (hK := KSub.ownF pk ?_ (KSub.nil _))
      rw [hend]
  · have hp : pos g.ns ⟨l, n⟩ < 0 := by rw [pos_none hm]; omega
    have hd : waveL g ⟨l, n⟩ = [] := if_neg hm
    rw [hd]
    refine enter (args := _) Tryz.func180 rfl Tryz.ntmps180 (by simp) ?_
    repeat' (first | refine E.st ?_ | refine E.cl (h := fun _ w _ => c_s_l2At w) (k := ?_) | refine E.b0 (α := Nd) (fun v5 h5 => ?_) | refine E.q3 ?_ | refine E.q ?_ | refine E.qs ?_ | refine E.q2 ?_ | refine E.q4 ?_ | refine E.tr ?_ | refine E.ap (fun _ _ => ?_) | refine E.b1 (fun _ _ => ?_) | refine E.b0 (fun _ _ => ?_) | refine E.bsn (fun _ _ => ?_) | refine E.mk (fun _ _ => ?_) | refine E.bxO (fun _ => ?_) | refine E.al (fun _ => ?_) | refine E.sbO ?_ | refine E.dq ?_ | refine E.ct ?_ | refine E.cf ?_ | refine E.cs (fun hh => ?_) (fun hh => ?_) | refine E.at_block_other rfl ?_)
    all_goals first
      | exact r1 (α := V1) ⟨_, by assumption⟩
      | (exfalso; omega)
end E
end Go.Proofs.YtpiiapoafmnhhaaGreat
/- spec.l6Order, l6Pages: the pages that are read. -/
namespace Go.Proofs.YtpiiapoafmnhhaaGreat
namespace E
open Go Go.RowKit
set_option linter.unusedSimpArgs false
set_option linter.unusedVariables false
set_option maxHeartbeats 1000000
set_option maxRecDepth 10000
attribute [local irreducible] HC HL HQ HX HO At Y YV Opd Opds KnX Sl Ld Src GV RV Calls Code.wp eptr adr RdF ownF OneX HG LdC
theorem c_l6Order_n {v u : Value} {l n : Int} (w : World) (o1 : v.oneCell' = true) (o2 : u.oneCell' = true) : Calls Tryz.prog 126 #[.agg #[v, u], .agg #[.int .i64 1, .int .i64 l, .int .i64 n]] w (Ret (fun z : V1 => z.1) (fun z => [ownF 32 z.1 [(⟨l, n⟩ : Nd)]]) w) := by
  refine enter (args := _) Tryz.func126 rfl Tryz.ntmps126 (by simp) ?_
  repeat' (first | refine E.st ?_ | refine E.b1 (α := Nd) (fun v5 h5 => ?_) | refine E.q3 ?_ | refine E.q ?_ | refine E.qs ?_ | refine E.q2 ?_ | refine E.q4 ?_ | refine E.tr ?_ | refine E.ap (fun _ _ => ?_) | refine E.b1 (fun _ _ => ?_) | refine E.b0 (fun _ _ => ?_) | refine E.bsn (fun _ _ => ?_) | refine E.mk (fun _ _ => ?_) | refine E.bxO (fun _ => ?_) | refine E.al (fun _ => ?_) | refine E.sbO ?_ | refine E.dq ?_ | refine E.ct ?_ | refine E.cf ?_ | refine E.cs (fun hh => ?_) (fun hh => ?_) | refine E.at_block_other rfl ?_)
  all_goals first
    | exact r1 (α := V1) ⟨_, by assumption⟩
    | (exfalso; omega)
theorem c_l6Order_d {v u : Value} {g : Gr} {l n : Int} (w : World) (hg : g.ok) (hr : RdF w v g.ns := by exact rdA) (hq : RdF w u g.es := by exact rdA) : Calls Tryz.prog 126 #[.agg #[v, u], .agg #[.int .i64 2, .int .i64 l, .int .i64 n]] w (Ret (fun z : V1 => z.1) (fun z => [ownF 32 z.1 (waveL g ⟨l, n⟩)]) w) := by
  have o1 := hr.one
  have o2 := hq.one
  refine enter (args := _) Tryz.func126 rfl Tryz.ntmps126 (by simp) ?_
  repeat' (first | refine E.st ?_ | refine E.cm (h := fun w hw => c_l6Wave w hg (hr.now hw) (hq.now hw)) (k := fun z => E.wy z.2 (fun _ => ?_)) | refine E.q3 ?_ | refine E.q ?_ | refine E.qs ?_ | refine E.q2 ?_ | refine E.q4 ?_ | refine E.tr ?_ | refine E.ap (fun _ _ => ?_) | refine E.b1 (fun _ _ => ?_) | refine E.b0 (fun _ _ => ?_) | refine E.bsn (fun _ _ => ?_) | refine E.mk (fun _ _ => ?_) | refine E.bxO (fun _ => ?_) | refine E.al (fun _ => ?_) | refine E.sbO ?_ | refine E.dq ?_ | refine E.ct ?_ | refine E.cf ?_ | refine E.cs (fun hh => ?_) (fun hh => ?_) | refine E.at_block_other rfl ?_)
  all_goals first
    | exact r1 (α := V1) ⟨_, by assumption⟩
    | (exfalso; omega)
theorem c_l6Order_o {v u : Value} {k l n : Int} (w : World) (h1 : k ≠ 1) (h2 : k ≠ 2) (o1 : v.oneCell' = true) (o2 : u.oneCell' = true) : Calls Tryz.prog 126 #[.agg #[v, u], .agg #[.int .i64 k, .int .i64 l, .int .i64 n]] w (Ret (fun _ : Unit => v) (fun _ => []) w) := by
  refine enter (args := _) Tryz.func126 rfl Tryz.ntmps126 (by simp) ?_
  repeat' (first | refine E.st ?_ | refine E.q3 ?_ | refine E.q ?_ | refine E.qs ?_ | refine E.q2 ?_ | refine E.q4 ?_ | refine E.tr ?_ | refine E.ap (fun _ _ => ?_) | refine E.b1 (fun _ _ => ?_) | refine E.b0 (fun _ _ => ?_) | refine E.bsn (fun _ _ => ?_) | refine E.mk (fun _ _ => ?_) | refine E.bxO (fun _ => ?_) | refine E.al (fun _ => ?_) | refine E.sbO ?_ | refine E.dq ?_ | refine E.ct ?_ | refine E.cf ?_ | refine E.cs (fun hh => ?_) (fun hh => ?_) | refine E.at_block_other rfl ?_)
  all_goals first
    | exact r1 ()
    | (exfalso; omega)
theorem nodeS_len (xs : List Sg) (hl : xs.length ≤ 8) (x : Nd) : (nodeS xs x).length ≤ 8000 := by
  rw [nodeS_eq]
  have := fl_len (f := spanR (cd x)) (m := 1000) (fun s => spanL_len _ _ _) xs
  omega
theorem headS_len (xs : List Sg) : (headsS xs).length ≤ 1000 * xs.length := by
  unfold headsS
  exact fl_len (f := fun s => spanL s.l 0 (hdS s)) (m := 1000) (fun s => spanL_len s.l 0 (hdS s)) xs
theorem headS_take_len (xs : List Sg) (k : Nat) : (headsS (xs.take k)).length ≤ 1000 * k := by
  have := headS_len (xs.take k)
  have h2 : (xs.take k).length ≤ k := List.length_take_le _ _
  have : 1000 * (xs.take k).length ≤ 1000 * k := Nat.mul_le_mul_left _ h2
  omega
theorem c_l6Pages_n {v u s : Value} {g : Gr} {xs : List Sg} {k l n : Int} (w : World) (hg : g.ok) (hs : ∀ s ∈ xs, SgOk s) (hl : xs.length ≤ 8) (hx : RdF w s xs := by exact rdA) (hr : RdF w v g.ns := by exact rdA) (hq : RdF w u g.es := by exact rdA) :
    Calls Tryz.prog 62 #[s, .agg #[v, u], .agg #[.int .i64 1, .int .i64 l, .int .i64 n]] w (Ret (fun z : V1 => z.1) (fun z => [ownF 63 z.1 (pagesS xs [(⟨l, n⟩ : Nd)])]) w) := by
  have o0 := hx.one
  have o1 := hr.one
  have o2 := hq.one
  have hnl := hg.1.len
  have hol : ([(⟨l, n⟩ : Nd)]).length ≤ 41 := by simp
  refine enter (args := _) Tryz.func62 rfl Tryz.ntmps62 (by simp) ?_
  repeat' (first | refine E.st ?_ | refine E.b0 (α := Pg) (fun v0 h0 => ?_) | refine E.q3 ?_ | refine E.q ?_ | refine E.qs ?_ | refine E.q2 ?_ | refine E.q4 ?_ | refine E.tr ?_ | refine E.ap (fun _ _ => ?_) | refine E.b1 (fun _ _ => ?_) | refine E.b0 (fun _ _ => ?_) | refine E.bsn (fun _ _ => ?_) | refine E.mk (fun _ _ => ?_) | refine E.bxO (fun _ => ?_) | refine E.al (fun _ => ?_) | refine E.sbO ?_ | refine E.dq ?_ | refine E.ct ?_ | refine E.cf ?_ | refine E.cs (fun hh => ?_) (fun hh => ?_) | refine E.at_block_other rfl ?_)
  refine lq (fun p : Nat × V1 => p.1 ≤ xs.length) (fun p => [(8, .pl (.int .i64 (p.1 : Int))), (7, .pl p.2.1)]) (fun p => [ownF 63 p.2.1 (headsS (xs.take p.1))]) (fun p => xs.length - p.1) (0, ⟨v0, h0⟩) (Nat.zero_le _) (fun p hp => ?_)
  obtain ⟨i, ⟨v7, h7⟩⟩ := p
  dsimp only at hp h7 ⊢
  have hfl := headS_take_len xs i
  rcases Nat.lt_or_ge i xs.length with hlt | hge
  · obtain ⟨⟨sl, sb⟩, hxi⟩ := get_lt hlt
    obtain ⟨c, hc, hz1, hz2, hz3⟩ := hs _ (List.mem_of_getElem? hxi)
    dsimp only at hc hz1
    have hst : headsS (xs.take (i + 1)) = headsS (xs.take i) ++ spanL sl 0 c.hd := by
      have := fl_step (f := fun s => spanL s.l 0 (hdS s)) hxi
      simp only [hdS, hc] at this
      exact this
    have hsl := spanL_len sl 0 c.hd
    have c_H : ∀ w, Calls Tryz.prog 125 #[.string sb] w (Ret (fun _ : Unit => .int .i64 ((c.hd : Nat) : Int)) (fun _ => []) w) := fun w => by
      have h := c_l6Head (s := sb) w (by omega)
      obtain ⟨_, _, h1, _, _⟩ := clsA_parts hc
      rw [h1] at h
      exact h
    repeat' (first | refine E.st ?_ | refine E.dxo v7 (i := 5) [0, 1, 2, 3, 4, 5, 6, 7, 8, 9, 10, 11, 12, 13, 14] ?_ | refine E.cl (h := fun _ w _ => c_H w) (k := ?_) | refine E.cm (h := fun w _ => c_s_PageSpan (fr := 0) (to := c.hd) w) (k := fun z => ?_) | refine E.apI (hs := RdIn.own memO) (hr := fun v9 h9 => ?_) | refine E.q3 ?_ | refine E.q ?_ | refine E.qs ?_ | refine E.q2 ?_ | refine E.q4 ?_ | refine E.tr ?_ | refine E.ap (fun _ _ => ?_) | refine E.b1 (fun _ _ => ?_) | refine E.b0 (fun _ _ => ?_) | refine E.bsn (fun _ _ => ?_) | refine E.mk (fun _ _ => ?_) | refine E.bxO (fun _ => ?_) | refine E.al (fun _ => ?_) | refine E.sbO ?_ | refine E.dq ?_ | refine E.ct ?_ | refine E.cf ?_ | refine E.cs (fun hh => ?_) (fun hh => ?_) | refine E.at_block_other rfl ?_)
    exact rd (α := Nat × V1) (i + 1, ⟨_, by assumption⟩) hlt (hK := KSub.ownF pk hst.symm ksv)
  · have hi : i = xs.length := by omega
    subst hi
    rw [List.take_length] at hfl ⊢
    repeat' (first | refine E.st ?_ | refine E.cm (h := fun w hw => c_l6Order_n w o1 o2) (k := fun y => ?_) | refine E.q3 ?_ | refine E.q ?_ | refine E.qs ?_ | refine E.q2 ?_ | refine E.q4 ?_ | refine E.tr ?_ | refine E.ap (fun _ _ => ?_) | refine E.b1 (fun _ _ => ?_) | refine E.b0 (fun _ _ => ?_) | refine E.bsn (fun _ _ => ?_) | refine E.mk (fun _ _ => ?_) | refine E.bxO (fun _ => ?_) | refine E.al (fun _ => ?_) | refine E.sbO ?_ | refine E.dq ?_ | refine E.ct ?_ | refine E.cf ?_ | refine E.cs (fun hh => ?_) (fun hh => ?_) | refine E.at_block_other rfl ?_)
    refine lq (fun p : Nat × V1 => p.1 ≤ ([(⟨l, n⟩ : Nd)]).length) (fun p => [(10, .pl (.int .i64 (p.1 : Int))), (7, .pl p.2.1)]) (fun p => [ownF 63 p.2.1 (headsS xs ++ (([(⟨l, n⟩ : Nd)]).take p.1).flatMap (nodeS xs))]) (fun p => ([(⟨l, n⟩ : Nd)]).length - p.1) (0, ⟨v7, h7⟩) (Nat.zero_le _) (fun p hp => ?_) (hK := Spl.ownF pk (by simp) (Spl.nil _))
    obtain ⟨j, ⟨v8, h8⟩⟩ := p
    dsimp only at hp h8 ⊢
    have hfn := fl_len (f := nodeS xs) (m := 8000) (nodeS_len xs hl) (([(⟨l, n⟩ : Nd)]).take j)
    have htj : (([(⟨l, n⟩ : Nd)]).take j).length ≤ 41 := by rw [List.length_take]; omega
    have hll : (headsS xs ++ (([(⟨l, n⟩ : Nd)]).take j).flatMap (nodeS xs)).length ≤ 1000000 := by rw [List.length_append]; omega
    rcases Nat.lt_or_ge j ([(⟨l, n⟩ : Nd)]).length with hlt2 | hge2
    · obtain ⟨⟨yl, yn⟩, hy⟩ := get_lt hlt2
      have hst : headsS xs ++ (([(⟨l, n⟩ : Nd)]).take (j + 1)).flatMap (nodeS xs) = (headsS xs ++ (([(⟨l, n⟩ : Nd)]).take j).flatMap (nodeS xs)) ++ xs.flatMap (spanR (cd ⟨yl, yn⟩)) := by
        rw [fl_step (f := nodeS xs) hy, ← List.append_assoc]; rfl
      have hnl9 : (xs.flatMap (spanR (cd ⟨yl, yn⟩))).length ≤ 8000 := nodeS_len xs hl ⟨yl, yn⟩
      repeat' (first | refine E.st ?_ | refine E.cm (h := fun w hw => c_l6Near w hs hl (hx.now hw)) (k := fun z => ?_) | refine E.apI (hs := RdIn.own memO) (hr := fun v9 h9 => ?_) | refine E.q3 ?_ | refine E.q ?_ | refine E.qs ?_ | refine E.q2 ?_ | refine E.q4 ?_ | refine E.tr ?_ | refine E.ap (fun _ _ => ?_) | refine E.b1 (fun _ _ => ?_) | refine E.b0 (fun _ _ => ?_) | refine E.bsn (fun _ _ => ?_) | refine E.mk (fun _ _ => ?_) | refine E.bxO (fun _ => ?_) | refine E.al (fun _ => ?_) | refine E.sbO ?_ | refine E.dq ?_ | refine E.ct ?_ | refine E.cf ?_ | refine E.cs (fun hh => ?_) (fun hh => ?_) | refine E.at_block_other rfl ?_)
      exact rd (α := Nat × V1) (j + 1, ⟨_, by assumption⟩) hlt2 (hK := KSub.ownF pk hst.symm ksv)
    · rw [List.take_of_length_le hge2]
      repeat' (first | refine E.st ?_ | refine E.q3 ?_ | refine E.q ?_ | refine E.qs ?_ | refine E.q2 ?_ | refine E.q4 ?_ | refine E.tr ?_ | refine E.ap (fun _ _ => ?_) | refine E.b1 (fun _ _ => ?_) | refine E.b0 (fun _ _ => ?_) | refine E.bsn (fun _ _ => ?_) | refine E.mk (fun _ _ => ?_) | refine E.bxO (fun _ => ?_) | refine E.al (fun _ => ?_) | refine E.sbO ?_ | refine E.dq ?_ | refine E.ct ?_ | refine E.cf ?_ | refine E.cs (fun hh => ?_) (fun hh => ?_) | refine E.at_block_other rfl ?_)
      exact r1 (α := V1) ⟨v8, h8⟩ (hK := ksv)
theorem c_l6Pages_d {v u s : Value} {g : Gr} {xs : List Sg} {k l n : Int} (w : World) (hg : g.ok) (hs : ∀ s ∈ xs, SgOk s) (hl : xs.length ≤ 8) (hx : RdF w s xs := by exact rdA) (hr : RdF w v g.ns := by exact rdA) (hq : RdF w u g.es := by exact rdA) :
    Calls Tryz.prog 62 #[s, .agg #[v, u], .agg #[.int .i64 2, .int .i64 l, .int .i64 n]] w (Ret (fun z : V1 => z.1) (fun z => [ownF 63 z.1 (pagesS xs (waveL g ⟨l, n⟩))]) w) := by
  have o0 := hx.one
  have o1 := hr.one
  have o2 := hq.one
  have hnl := hg.1.len
  have hol : (waveL g ⟨l, n⟩).length ≤ 41 := by
    by_cases hm : (⟨l, n⟩ : Nd) ∈ g.ns
    · rw [wave_eq hg hm, ndL_len]
      have := (BI.bfs (AOk.of hg) (plc_ok hm).2.2).mlen
      omega
    · have : waveL g ⟨l, n⟩ = [] := if_neg hm
      rw [this]; simp
  refine enter (args := _) Tryz.func62 rfl Tryz.ntmps62 (by simp) ?_
  repeat' (first | refine E.st ?_ | refine E.b0 (α := Pg) (fun v0 h0 => ?_) | refine E.q3 ?_ | refine E.q ?_ | refine E.qs ?_ | refine E.q2 ?_ | refine E.q4 ?_ | refine E.tr ?_ | refine E.ap (fun _ _ => ?_) | refine E.b1 (fun _ _ => ?_) | refine E.b0 (fun _ _ => ?_) | refine E.bsn (fun _ _ => ?_) | refine E.mk (fun _ _ => ?_) | refine E.bxO (fun _ => ?_) | refine E.al (fun _ => ?_) | refine E.sbO ?_ | refine E.dq ?_ | refine E.ct ?_ | refine E.cf ?_ | refine E.cs (fun hh => ?_) (fun hh => ?_) | refine E.at_block_other rfl ?_)
  refine lq (fun p : Nat × V1 => p.1 ≤ xs.length) (fun p => [(8, .pl (.int .i64 (p.1 : Int))), (7, .pl p.2.1)]) (fun p => [ownF 63 p.2.1 (headsS (xs.take p.1))]) (fun p => xs.length - p.1) (0, ⟨v0, h0⟩) (Nat.zero_le _) (fun p hp => ?_)
  obtain ⟨i, ⟨v7, h7⟩⟩ := p
  dsimp only at hp h7 ⊢
  have hfl := headS_take_len xs i
  rcases Nat.lt_or_ge i xs.length with hlt | hge
  · obtain ⟨⟨sl, sb⟩, hxi⟩ := get_lt hlt
    obtain ⟨c, hc, hz1, hz2, hz3⟩ := hs _ (List.mem_of_getElem? hxi)
    dsimp only at hc hz1
    have hst : headsS (xs.take (i + 1)) = headsS (xs.take i) ++ spanL sl 0 c.hd := by
      have := fl_step (f := fun s => spanL s.l 0 (hdS s)) hxi
      simp only [hdS, hc] at this
      exact this
    have hsl := spanL_len sl 0 c.hd
    have c_H : ∀ w, Calls Tryz.prog 125 #[.string sb] w (Ret (fun _ : Unit => .int .i64 ((c.hd : Nat) : Int)) (fun _ => []) w) := fun w => by
      have h := c_l6Head (s := sb) w (by omega)
      obtain ⟨_, _, h1, _, _⟩ := clsA_parts hc
      rw [h1] at h
      exact h
    repeat' (first | refine E.st ?_ | refine E.dxo v7 (i := 5) [0, 1, 2, 3, 4, 5, 6, 7, 8, 9, 10, 11, 12, 13, 14] ?_ | refine E.cl (h := fun _ w _ => c_H w) (k := ?_) | refine E.cm (h := fun w _ => c_s_PageSpan (fr := 0) (to := c.hd) w) (k := fun z => ?_) | refine E.apI (hs := RdIn.own memO) (hr := fun v9 h9 => ?_) | refine E.q3 ?_ | refine E.q ?_ | refine E.qs ?_ | refine E.q2 ?_ | refine E.q4 ?_ | refine E.tr ?_ | refine E.ap (fun _ _ => ?_) | refine E.b1 (fun _ _ => ?_) | refine E.b0 (fun _ _ => ?_) | refine E.bsn (fun _ _ => ?_) | refine E.mk (fun _ _ => ?_) | refine E.bxO (fun _ => ?_) | refine E.al (fun _ => ?_) | refine E.sbO ?_ | refine E.dq ?_ | refine E.ct ?_ | refine E.cf ?_ | refine E.cs (fun hh => ?_) (fun hh => ?_) | refine E.at_block_other rfl ?_)
    exact rd (α := Nat × V1) (i + 1, ⟨_, by assumption⟩) hlt (hK := KSub.ownF pk hst.symm ksv)
  · have hi : i = xs.length := by omega
    subst hi
    rw [List.take_length] at hfl ⊢
    repeat' (first | refine E.st ?_ | refine E.cm (h := fun w hw => c_l6Order_d w hg (hr.now hw) (hq.now hw)) (k := fun y => ?_) | refine E.q3 ?_ | refine E.q ?_ | refine E.qs ?_ | refine E.q2 ?_ | refine E.q4 ?_ | refine E.tr ?_ | refine E.ap (fun _ _ => ?_) | refine E.b1 (fun _ _ => ?_) | refine E.b0 (fun _ _ => ?_) | refine E.bsn (fun _ _ => ?_) | refine E.mk (fun _ _ => ?_) | refine E.bxO (fun _ => ?_) | refine E.al (fun _ => ?_) | refine E.sbO ?_ | refine E.dq ?_ | refine E.ct ?_ | refine E.cf ?_ | refine E.cs (fun hh => ?_) (fun hh => ?_) | refine E.at_block_other rfl ?_)
    refine lq (fun p : Nat × V1 => p.1 ≤ (waveL g ⟨l, n⟩).length) (fun p => [(10, .pl (.int .i64 (p.1 : Int))), (7, .pl p.2.1)]) (fun p => [ownF 63 p.2.1 (headsS xs ++ ((waveL g ⟨l, n⟩).take p.1).flatMap (nodeS xs))]) (fun p => (waveL g ⟨l, n⟩).length - p.1) (0, ⟨v7, h7⟩) (Nat.zero_le _) (fun p hp => ?_) (hK := Spl.ownF pk (by simp) (Spl.nil _))
    obtain ⟨j, ⟨v8, h8⟩⟩ := p
    dsimp only at hp h8 ⊢
    have hfn := fl_len (f := nodeS xs) (m := 8000) (nodeS_len xs hl) ((waveL g ⟨l, n⟩).take j)
    have htj : ((waveL g ⟨l, n⟩).take j).length ≤ 41 := by rw [List.length_take]; omega
    have hll : (headsS xs ++ ((waveL g ⟨l, n⟩).take j).flatMap (nodeS xs)).length ≤ 1000000 := by rw [List.length_append]; omega
    rcases Nat.lt_or_ge j (waveL g ⟨l, n⟩).length with hlt2 | hge2
    · obtain ⟨⟨yl, yn⟩, hy⟩ := get_lt hlt2
      have hst : headsS xs ++ ((waveL g ⟨l, n⟩).take (j + 1)).flatMap (nodeS xs) = (headsS xs ++ ((waveL g ⟨l, n⟩).take j).flatMap (nodeS xs)) ++ xs.flatMap (spanR (cd ⟨yl, yn⟩)) := by
        rw [fl_step (f := nodeS xs) hy, ← List.append_assoc]; rfl
      have hnl9 : (xs.flatMap (spanR (cd ⟨yl, yn⟩))).length ≤ 8000 := nodeS_len xs hl ⟨yl, yn⟩
      repeat' (first | refine E.st ?_ | refine E.cm (h := fun w hw => c_l6Near w hs hl (hx.now hw)) (k := fun z => ?_) | refine E.apI (hs := RdIn.own memO) (hr := fun v9 h9 => ?_) | refine E.q3 ?_ | refine E.q ?_ | refine E.qs ?_ | refine E.q2 ?_ | refine E.q4 ?_ | refine E.tr ?_ | refine E.ap (fun _ _ => ?_) | refine E.b1 (fun _ _ => ?_) | refine E.b0 (fun _ _ => ?_) | refine E.bsn (fun _ _ => ?_) | refine E.mk (fun _ _ => ?_) | refine E.bxO (fun _ => ?_) | refine E.al (fun _ => ?_) | refine E.sbO ?_ | refine E.dq ?_ | refine E.ct ?_ | refine E.cf ?_ | refine E.cs (fun hh => ?_) (fun hh => ?_) | refine E.at_block_other rfl ?_)
      exact rd (α := Nat × V1) (j + 1, ⟨_, by assumption⟩) hlt2 (hK := KSub.ownF pk hst.symm ksv)
    · rw [List.take_of_length_le hge2]
      repeat' (first | refine E.st ?_ | refine E.q3 ?_ | refine E.q ?_ | refine E.qs ?_ | refine E.q2 ?_ | refine E.q4 ?_ | refine E.tr ?_ | refine E.ap (fun _ _ => ?_) | refine E.b1 (fun _ _ => ?_) | refine E.b0 (fun _ _ => ?_) | refine E.bsn (fun _ _ => ?_) | refine E.mk (fun _ _ => ?_) | refine E.bxO (fun _ => ?_) | refine E.al (fun _ => ?_) | refine E.sbO ?_ | refine E.dq ?_ | refine E.ct ?_ | refine E.cf ?_ | refine E.cs (fun hh => ?_) (fun hh => ?_) | refine E.at_block_other rfl ?_)
      exact r1 (α := V1) ⟨v8, h8⟩ (hK := ksv)
theorem c_l6Pages_o {v u s : Value} {g : Gr} {xs : List Sg} {k l n : Int} (w : World) (hg : g.ok) (hs : ∀ s ∈ xs, SgOk s) (hl : xs.length ≤ 8) (h1 : k ≠ 1) (h2 : k ≠ 2) (hx : RdF w s xs := by exact rdA) (hr : RdF w v g.ns := by exact rdA) (hq : RdF w u g.es := by exact rdA) :
    Calls Tryz.prog 62 #[s, .agg #[v, u], .agg #[.int .i64 k, .int .i64 l, .int .i64 n]] w (Ret (fun z : V1 => z.1) (fun z => [ownF 63 z.1 (pagesS xs g.ns)]) w) := by
  have o0 := hx.one
  have o1 := hr.one
  have o2 := hq.one
  have hnl := hg.1.len
  have hol : g.ns.length ≤ 41 := by omega
  refine enter (args := _) Tryz.func62 rfl Tryz.ntmps62 (by simp) ?_
  repeat' (first | refine E.st ?_ | refine E.b0 (α := Pg) (fun v0 h0 => ?_) | refine E.q3 ?_ | refine E.q ?_ | refine E.qs ?_ | refine E.q2 ?_ | refine E.q4 ?_ | refine E.tr ?_ | refine E.ap (fun _ _ => ?_) | refine E.b1 (fun _ _ => ?_) | refine E.b0 (fun _ _ => ?_) | refine E.bsn (fun _ _ => ?_) | refine E.mk (fun _ _ => ?_) | refine E.bxO (fun _ => ?_) | refine E.al (fun _ => ?_) | refine E.sbO ?_ | refine E.dq ?_ | refine E.ct ?_ | refine E.cf ?_ | refine E.cs (fun hh => ?_) (fun hh => ?_) | refine E.at_block_other rfl ?_)
  refine lq (fun p : Nat × V1 => p.1 ≤ xs.length) (fun p => [(8, .pl (.int .i64 (p.1 : Int))), (7, .pl p.2.1)]) (fun p => [ownF 63 p.2.1 (headsS (xs.take p.1))]) (fun p => xs.length - p.1) (0, ⟨v0, h0⟩) (Nat.zero_le _) (fun p hp => ?_)
  obtain ⟨i, ⟨v7, h7⟩⟩ := p
  dsimp only at hp h7 ⊢
  have hfl := headS_take_len xs i
  rcases Nat.lt_or_ge i xs.length with hlt | hge
  · obtain ⟨⟨sl, sb⟩, hxi⟩ := get_lt hlt
    obtain ⟨c, hc, hz1, hz2, hz3⟩ := hs _ (List.mem_of_getElem? hxi)
    dsimp only at hc hz1
    have hst : headsS (xs.take (i + 1)) = headsS (xs.take i) ++ spanL sl 0 c.hd := by
      have := fl_step (f := fun s => spanL s.l 0 (hdS s)) hxi
      simp only [hdS, hc] at this
      exact this
    have hsl := spanL_len sl 0 c.hd
    have c_H : ∀ w, Calls Tryz.prog 125 #[.string sb] w (Ret (fun _ : Unit => .int .i64 ((c.hd : Nat) : Int)) (fun _ => []) w) := fun w => by
      have h := c_l6Head (s := sb) w (by omega)
      obtain ⟨_, _, h1, _, _⟩ := clsA_parts hc
      rw [h1] at h
      exact h
    repeat' (first | refine E.st ?_ | refine E.dxo v7 (i := 5) [0, 1, 2, 3, 4, 5, 6, 7, 8, 9, 10, 11, 12, 13, 14] ?_ | refine E.cl (h := fun _ w _ => c_H w) (k := ?_) | refine E.cm (h := fun w _ => c_s_PageSpan (fr := 0) (to := c.hd) w) (k := fun z => ?_) | refine E.apI (hs := RdIn.own memO) (hr := fun v9 h9 => ?_) | refine E.q3 ?_ | refine E.q ?_ | refine E.qs ?_ | refine E.q2 ?_ | refine E.q4 ?_ | refine E.tr ?_ | refine E.ap (fun _ _ => ?_) | refine E.b1 (fun _ _ => ?_) | refine E.b0 (fun _ _ => ?_) | refine E.bsn (fun _ _ => ?_) | refine E.mk (fun _ _ => ?_) | refine E.bxO (fun _ => ?_) | refine E.al (fun _ => ?_) | refine E.sbO ?_ | refine E.dq ?_ | refine E.ct ?_ | refine E.cf ?_ | refine E.cs (fun hh => ?_) (fun hh => ?_) | refine E.at_block_other rfl ?_)
    exact rd (α := Nat × V1) (i + 1, ⟨_, by assumption⟩) hlt (hK := KSub.ownF pk hst.symm ksv)
  · have hi : i = xs.length := by omega
    subst hi
    rw [List.take_length] at hfl ⊢
    repeat' (first | refine E.st ?_ | refine E.cl (h := fun _ w hw => c_l6Order_o w h1 h2 o1 o2) (k := ?_) | refine E.q3 ?_ | refine E.q ?_ | refine E.qs ?_ | refine E.q2 ?_ | refine E.q4 ?_ | refine E.tr ?_ | refine E.ap (fun _ _ => ?_) | refine E.b1 (fun _ _ => ?_) | refine E.b0 (fun _ _ => ?_) | refine E.bsn (fun _ _ => ?_) | refine E.mk (fun _ _ => ?_) | refine E.bxO (fun _ => ?_) | refine E.al (fun _ => ?_) | refine E.sbO ?_ | refine E.dq ?_ | refine E.ct ?_ | refine E.cf ?_ | refine E.cs (fun hh => ?_) (fun hh => ?_) | refine E.at_block_other rfl ?_)
    refine lq (fun p : Nat × V1 => p.1 ≤ (g.ns).length) (fun p => [(10, .pl (.int .i64 (p.1 : Int))), (7, .pl p.2.1)]) (fun p => [ownF 63 p.2.1 (headsS xs ++ ((g.ns).take p.1).flatMap (nodeS xs))]) (fun p => (g.ns).length - p.1) (0, ⟨v7, h7⟩) (Nat.zero_le _) (fun p hp => ?_) (hK := Spl.ownF pk (by simp) (Spl.nil _))
    obtain ⟨j, ⟨v8, h8⟩⟩ := p
    dsimp only at hp h8 ⊢
    have hfn := fl_len (f := nodeS xs) (m := 8000) (nodeS_len xs hl) ((g.ns).take j)
    have htj : ((g.ns).take j).length ≤ 41 := by rw [List.length_take]; omega
    have hll : (headsS xs ++ ((g.ns).take j).flatMap (nodeS xs)).length ≤ 1000000 := by rw [List.length_append]; omega
    rcases Nat.lt_or_ge j (g.ns).length with hlt2 | hge2
    · obtain ⟨⟨yl, yn⟩, hy⟩ := get_lt hlt2
      have hst : headsS xs ++ ((g.ns).take (j + 1)).flatMap (nodeS xs) = (headsS xs ++ ((g.ns).take j).flatMap (nodeS xs)) ++ xs.flatMap (spanR (cd ⟨yl, yn⟩)) := by
        rw [fl_step (f := nodeS xs) hy, ← List.append_assoc]; rfl
      have hnl9 : (xs.flatMap (spanR (cd ⟨yl, yn⟩))).length ≤ 8000 := nodeS_len xs hl ⟨yl, yn⟩
      repeat' (first | refine E.st ?_ | refine E.cm (h := fun w hw => c_l6Near w hs hl (hx.now hw)) (k := fun z => ?_) | refine E.apI (hs := RdIn.own memO) (hr := fun v9 h9 => ?_) | refine E.q3 ?_ | refine E.q ?_ | refine E.qs ?_ | refine E.q2 ?_ | refine E.q4 ?_ | refine E.tr ?_ | refine E.ap (fun _ _ => ?_) | refine E.b1 (fun _ _ => ?_) | refine E.b0 (fun _ _ => ?_) | refine E.bsn (fun _ _ => ?_) | refine E.mk (fun _ _ => ?_) | refine E.bxO (fun _ => ?_) | refine E.al (fun _ => ?_) | refine E.sbO ?_ | refine E.dq ?_ | refine E.ct ?_ | refine E.cf ?_ | refine E.cs (fun hh => ?_) (fun hh => ?_) | refine E.at_block_other rfl ?_)
      exact rd (α := Nat × V1) (j + 1, ⟨_, by assumption⟩) hlt2 (hK := KSub.ownF pk hst.symm ksv)
    · rw [List.take_of_length_le hge2]
      repeat' (first | refine E.st ?_ | refine E.q3 ?_ | refine E.q ?_ | refine E.qs ?_ | refine E.q2 ?_ | refine E.q4 ?_ | refine E.tr ?_ | refine E.ap (fun _ _ => ?_) | refine E.b1 (fun _ _ => ?_) | refine E.b0 (fun _ _ => ?_) | refine E.bsn (fun _ _ => ?_) | refine E.mk (fun _ _ => ?_) | refine E.bxO (fun _ => ?_) | refine E.al (fun _ => ?_) | refine E.sbO ?_ | refine E.dq ?_ | refine E.ct ?_ | refine E.cf ?_ | refine E.cs (fun hh => ?_) (fun hh => ?_) | refine E.at_block_other rfl ?_)
      exact r1 (α := V1) ⟨v8, h8⟩ (hK := ksv)
/-- The pages that are read of what is seen. -/
theorem c_l6Pages {v u s : Value} {g : Gr} {xs : List Sg} {k l n : Int} (w : World) (hg : g.ok) (hs : ∀ s ∈ xs, SgOk s) (hl : xs.length ≤ 8) (hx : RdF w s xs := by exact rdA) (hr : RdF w v g.ns := by exact rdA) (hq : RdF w u g.es := by exact rdA) :
    Calls Tryz.prog 62 #[s, .agg #[v, u], .agg #[.int .i64 k, .int .i64 l, .int .i64 n]] w (Ret (fun z : V1 => z.1) (fun z => [ownF 63 z.1 (pagesS xs (orderL g ⟨k, ⟨l, n⟩⟩))]) w) := by
  by_cases h1 : k = 1
  · subst h1
    have : orderL g ⟨1, ⟨l, n⟩⟩ = [⟨l, n⟩] := rfl
    rw [this]
    exact c_l6Pages_n (k := 1) w hg hs hl hx hr hq
  · by_cases h2 : k = 2
    · subst h2
      have : orderL g ⟨2, ⟨l, n⟩⟩ = waveL g ⟨l, n⟩ := rfl
      rw [this]
      exact c_l6Pages_d (k := 2) w hg hs hl hx hr hq
    · have : orderL g ⟨k, ⟨l, n⟩⟩ = g.ns := by unfold orderL; rw [if_neg h1, if_neg h2]
      rw [this]
      exact c_l6Pages_o w hg hs hl h1 h2 hx hr hq
end E
end Go.Proofs.YtpiiapoafmnhhaaGreat
