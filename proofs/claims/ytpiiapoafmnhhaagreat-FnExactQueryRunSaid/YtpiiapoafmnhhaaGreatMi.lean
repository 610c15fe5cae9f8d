/- Rows of edges are read, as the reference reads them. -/
import Derived.Test.YtpiiapoafmnhhaaGreatM13
import Derived.Test.YtpiiapoafmnhhaaGreatUg
namespace Go.Proofs.YtpiiapoafmnhhaaGreat
namespace E
open Go Go.RowKit
set_option linter.unusedSimpArgs false
set_option linter.unusedVariables false
set_option maxHeartbeats 1000000
set_option maxRecDepth 10000
attribute [local irreducible] HC HL HQ HX HO At Y YV Opd Opds KnX Sl Ld Src GV RV Calls Code.wp eptr adr RdF ownF OneX HG LdC
theorem c_l4Node {n : Int} (w : World) (h : 0 ≤ n ∧ n ≤ 1000000 := by omega) : Calls Tryz.prog 206 #[.int .i64 n] w (Ret (fun _ : Unit => .agg #[.int .i64 (nodeOf n).l, .int .i64 (nodeOf n).n]) (fun _ => []) w) := by
  have e1 : IntKind.i64.wrap (n.tdiv 64) = (nodeOf n).l := by
    rw [Int.tdiv_eq_ediv_of_nonneg (by omega), wrap_i64_of (by omega)]; rfl
  have e2 : n.tmod 64 = (nodeOf n).n := by
    rw [Int.tmod_eq_emod_of_nonneg (by omega)]; rfl
  refine enter (args := _) Tryz.func206 rfl Tryz.ntmps206 (by simp) ?_
  repeat' (first | refine E.st ?_ | refine E.q3 ?_ | refine E.q ?_ | refine E.qs ?_ | refine E.q2 ?_ | refine E.q4 ?_ | refine E.tr ?_ | refine E.ap (fun _ _ => ?_) | refine E.b1 (fun _ _ => ?_) | refine E.b0 (fun _ _ => ?_) | refine E.bsn (fun _ _ => ?_) | refine E.mk (fun _ _ => ?_) | refine E.bxO (fun _ => ?_) | refine E.al (fun _ => ?_) | refine E.sbO ?_ | refine E.dq ?_ | refine E.ct ?_ | refine E.cf ?_ | refine E.cs (fun hh => ?_) (fun hh => ?_) | refine E.at_block_other rfl ?_)
  refine r1 () (hv := ?_)
  simp only [e1, e2]
theorem gapA_bd {s : ByteArray} : ∀ (n : Nat) (last : Int) (p : Nat) {r : List Int × Nat}, -1 ≤ last → gapA (bn s) n last p = some r → ∀ x ∈ r.1, 0 ≤ x ∧ x ≤ 16383
  | 0, last, p, r, _, h => by
    simp only [gapA, Option.some.injEq] at h
    subst h; simp
  | n + 1, last, p, r, hl, h => by
    unfold gapA at h
    split at h
    · cases h
    · rename_i g nx hn
      split at h
      · cases h
      · rename_i hg
        cases hgg : gapA (bn s) n (last + 1 + g) nx with
        | none => rw [hgg] at h; cases h
        | some r2 =>
          rw [hgg] at h
          simp only [Option.map_some, Option.some.injEq] at h
          have ih := gapA_bd n _ nx (by omega) hgg
          subst h
          intro x hx
          rcases List.mem_cons.1 hx with rfl | hx
          · omega
          · exact ih x hx
theorem rowA_bd {s : ByteArray} {p : Nat} {r : List Int × Nat} (h : rowA (bn s) p = some r) : ∀ x ∈ r.1, 0 ≤ x ∧ x ≤ 16383 := by
  unfold rowA at h
  split at h
  · cases h
  · split at h
    · cases h
    · exact gapA_bd _ _ _ (by omega) h
def edgeOf (a c o : Int) : Option Eg := if c < o then some ⟨a, nodeOf c, nodeOf o⟩ else none
theorem rowEs_eq (a : Int) (r : Rw) : rowEs a r = r.jn.filterMap (edgeOf a r.code) := rfl
/-- What rows of edges tell, from the place p on. -/
def rowsR (s : List Nat) (p : Nat) : Option (List Rw × Nat) := match numA s p with
  | none => none
  | some (n, q) => rowsA s n q
/-- What is told of rows that were read behind edges. -/
abbrev RwT (es : List Eg) (s : ByteArray) (p : Nat) (a : Int) : Type := { z : V1 × List Eg × Bool // z.2.1.length ≤ es.length + 3000000 ∧ (z.2.2 = true ↔ ∃ rows, rowsR (bn s) p = some (rows, s.size)) ∧ ∀ rows, rowsR (bn s) p = some (rows, s.size) → z.2.1 = es ++ rows.flatMap (rowEs a) }
theorem fm_step {α β : Type} {f : α → Option β} {xs : List α} {k : Nat} {x : α} (h : xs[k]? = some x) : (xs.take (k + 1)).filterMap f = (xs.take k).filterMap f ++ (f x).toList := by
  rw [List.take_add_one, h, List.filterMap_append]
  cases hf : f x <;> simp [hf]
theorem fm_len {α β : Type} (f : α → Option β) (xs : List α) (k : Nat) : ((xs.take k).filterMap f).length ≤ xs.length := Nat.le_trans (List.length_filterMap_le _ _) (by rw [List.length_take]; omega)
set_option maxHeartbeats 8000000 in
theorem c_l4Rows {v u : Value} {es : List Eg} {s : ByteArray} {p : Nat} {a : Int} {w0 : World} {K : List Ck} (w : World) (hw : KOk w0 (ownF 84 u es :: K) w) (hv : v.oneCell' = true := by assumption) (hl : es.length ≤ 1000 := by omega) (hs : s.size ≤ 4000000 := by omega) (hp : p ≤ s.size := by omega) :
    Calls Tryz.prog 179 #[.agg #[v, u], .string s, .int .i64 (p : Int), .int .i64 a] w (RetK (fun z : RwT es s p a => .tuple #[.agg #[v, z.1.1.1], .bool z.1.2.2]) (fun z => ownF 84 z.1.1.1 z.1.2.1 :: K) w0) := by
  have ho : u.oneCell' = true := (RdF.of_own (List.mem_cons_self) hw : RdF w u es).one
  cases hn : numA (bn s) p with
  | none =>
    have hR : rowsR (bn s) p = none := by unfold rowsR; rw [hn]
    refine enterK (args := _) hw Tryz.func179 rfl Tryz.ntmps179 (by simp) ?_
    repeat' (first | refine E.st ?_ | refine E.cl (h := fun _ w _ => c_s_NumAt_n w hn) (k := ?_)  | refine E.q3 ?_ | refine E.q ?_ | refine E.qs ?_ | refine E.q2 ?_ | refine E.q4 ?_ | refine E.tr ?_ | refine E.ap (fun _ _ => ?_) | refine E.b1 (fun _ _ => ?_) | refine E.b0 (fun _ _ => ?_) | refine E.bsn (fun _ _ => ?_) | refine E.mk (fun _ _ => ?_) | refine E.bxO (fun _ => ?_) | refine E.al (fun _ => ?_) | refine E.sbO ?_ | refine E.dq ?_ | refine E.ct ?_ | refine E.cf ?_ | refine E.cs (fun hh => ?_) (fun hh => ?_) | refine E.at_block_other rfl ?_)
    refine lq (fun _ : Unit => True) (fun _ => [(12, .pl (.int .i64 0)), (10, .pl (.int .i64 0)), (11, .pl (.bool false))]) (fun _ => ([] : List Ck)) (fun _ => 0) () trivial (fun _ _ => ?_)
    repeat' (first | refine E.st ?_ | refine E.q3 ?_ | refine E.q ?_ | refine E.qs ?_ | refine E.q2 ?_ | refine E.q4 ?_ | refine E.tr ?_ | refine E.ap (fun _ _ => ?_) | refine E.b1 (fun _ _ => ?_) | refine E.b0 (fun _ _ => ?_) | refine E.bsn (fun _ _ => ?_) | refine E.mk (fun _ _ => ?_) | refine E.bxO (fun _ => ?_) | refine E.al (fun _ => ?_) | refine E.sbO ?_ | refine E.dq ?_ | refine E.ct ?_ | refine E.cf ?_ | refine E.cs (fun hh => ?_) (fun hh => ?_) | refine E.at_block_other rfl ?_)
    all_goals first
      | exact rnK (α := RwT es s p a) ⟨(⟨u, ho⟩, es, false), by dsimp only; omega, by rw [hR]; simp, by rw [hR]; simp⟩
      | (exfalso; simp_all; done)
      | (exfalso; omega)
      | trace_state
  | some r =>
    obtain ⟨n, q0⟩ := r
    have hle := numA_le hn
    dsimp only at hle
    have hR : rowsR (bn s) p = rowsA (bn s) n q0 := by unfold rowsR; rw [hn]
    refine enterK (args := _) hw Tryz.func179 rfl Tryz.ntmps179 (by simp) ?_
    repeat' (first | refine E.st ?_ | refine E.cl (h := fun _ w _ => c_s_NumAt_s w hn) (k := ?_) | refine E.bx (fun g4 => ?_) | refine E.al (fun g8 => ?_) | refine E.q3 ?_ | refine E.q ?_ | refine E.qs ?_ | refine E.q2 ?_ | refine E.q4 ?_ | refine E.tr ?_ | refine E.ap (fun _ _ => ?_) | refine E.b1 (fun _ _ => ?_) | refine E.b0 (fun _ _ => ?_) | refine E.bsn (fun _ _ => ?_) | refine E.mk (fun _ _ => ?_) | refine E.bxO (fun _ => ?_) | refine E.al (fun _ => ?_) | refine E.sbO ?_ | refine E.dq ?_ | refine E.ct ?_ | refine E.cf ?_ | refine E.cs (fun hh => ?_) (fun hh => ?_) | refine E.at_block_other rfl ?_)
    refine E.hcf [(12, .pl (.int .i64 0)), (2, .pl (.int .i64 (q0 : Int))), (11, .pl (.bool true)), (10, .pl (.int .i64 (n : Int))), (1, .pl (.string s)), (3, .pl (.int .i64 a)), (4, .pl (.pointer (some ⟨g4, 0, none⟩))), (8, .pl (.pointer (some ⟨g8, 0, none⟩)))] ?_
    refine lq (fun z : Nat × V1 × List Eg × Nat × Bool × List Rw => z.1 ≤ n ∧ z.2.2.2.1 ≤ s.size ∧ z.2.2.1.length ≤ es.length + z.1 * 127 ∧ (z.2.2.2.2.1 = true → rowsA (bn s) n q0 = (rowsA (bn s) (n - z.1) z.2.2.2.1).map (fun r => (z.2.2.2.2.2 ++ r.1, r.2)) ∧ z.2.2.1 = es ++ z.2.2.2.2.2.flatMap (rowEs a)) ∧ (z.2.2.2.2.1 = false → rowsA (bn s) n q0 = none)) (fun z => [(12, .pl (.int .i64 (z.1 : Int))), (2, .pl (.int .i64 ((z.2.2.2.1 : Nat) : Int))), (11, .pl (.bool z.2.2.2.2.1)), (10, .pl (.int .i64 (n : Int)))]) (fun z => [.box g4 45 [v, z.2.1.1], ownF 84 z.2.1.1 z.2.2.1]) (fun z => n - z.1) (0, ⟨u, ho⟩, es, q0, true, []) ⟨Nat.zero_le _, hle.2.2, by dsimp only; omega, fun _ => ⟨by simp, by simp⟩, fun h => by cases h⟩ (fun z hz => ?_)
    obtain ⟨i, ⟨vE, hE⟩, acc, q, ok, dn⟩ := z
    obtain ⟨hi, hq, hal, hG, hF0⟩ := hz
    dsimp only at hi hq hal hG hF0 ⊢
    have hal2 : acc.length ≤ es.length + 2200000 := by
      have : i * 127 ≤ 16383 * 127 := Nat.mul_le_mul_right _ (by omega)
      omega
    cases ok with
    | false =>
      have hN := hF0 rfl
      repeat' (first | refine E.st ?_ | refine E.q3 ?_ | refine E.q ?_ | refine E.qs ?_ | refine E.q2 ?_ | refine E.q4 ?_ | refine E.tr ?_ | refine E.ap (fun _ _ => ?_) | refine E.b1 (fun _ _ => ?_) | refine E.b0 (fun _ _ => ?_) | refine E.bsn (fun _ _ => ?_) | refine E.mk (fun _ _ => ?_) | refine E.bxO (fun _ => ?_) | refine E.al (fun _ => ?_) | refine E.sbO ?_ | refine E.dq ?_ | refine E.ct ?_ | refine E.cf ?_ | refine E.cs (fun hh => ?_) (fun hh => ?_) | refine E.at_block_other rfl ?_)
      all_goals first
        | exact rnK (α := RwT es s p a) ⟨(⟨vE, hE⟩, acc, false), by dsimp only; omega, by rw [hR, hN]; simp, by rw [hR, hN]; simp⟩ (hK := ksv)
        | (exfalso; simp_all; done)
        | (exfalso; omega)
        | trace_state
    | true =>
      obtain ⟨hG1, hG2⟩ := hG rfl
      rcases Nat.lt_or_ge i n with hlt | hge
      · have hs1 : n - i = (n - (i + 1)) + 1 := by omega
        cases hn1 : numA (bn s) q with
        | none =>
          have hN : rowsA (bn s) n q0 = none := by rw [hG1, hs1]; simp [rowsA, hn1]
          repeat' (first | refine E.st ?_ | refine E.cl (h := fun _ w _ => c_s_NumAt_n w hn1) (k := ?_) | refine E.b0 (α := Int) (fun v14 h14 => ?_) | refine E.q3 ?_ | refine E.q ?_ | refine E.qs ?_ | refine E.q2 ?_ | refine E.q4 ?_ | refine E.tr ?_ | refine E.ap (fun _ _ => ?_) | refine E.b1 (fun _ _ => ?_) | refine E.b0 (fun _ _ => ?_) | refine E.bsn (fun _ _ => ?_) | refine E.mk (fun _ _ => ?_) | refine E.bxO (fun _ => ?_) | refine E.al (fun _ => ?_) | refine E.sbO ?_ | refine E.dq ?_ | refine E.ct ?_ | refine E.cf ?_ | refine E.cs (fun hh => ?_) (fun hh => ?_) | refine E.at_block_other rfl ?_)
          (try any_goals (exfalso; rcases hh with hh | hh <;> first | omega | exact hh))
          refine lq (fun _ : Unit => True) (fun _ => [(15, .pl (.int .i64 0)), (11, .pl (.bool false)), (2, .pl (.int .i64 0))]) (fun _ => ([] : List Ck)) (fun _ => 0) () trivial (fun _ _ => ?_)
          repeat' (first | refine E.st ?_ | refine E.q3 ?_ | refine E.q ?_ | refine E.qs ?_ | refine E.q2 ?_ | refine E.q4 ?_ | refine E.tr ?_ | refine E.ap (fun _ _ => ?_) | refine E.b1 (fun _ _ => ?_) | refine E.b0 (fun _ _ => ?_) | refine E.bsn (fun _ _ => ?_) | refine E.mk (fun _ _ => ?_) | refine E.bxO (fun _ => ?_) | refine E.al (fun _ => ?_) | refine E.sbO ?_ | refine E.dq ?_ | refine E.ct ?_ | refine E.cf ?_ | refine E.cs (fun hh => ?_) (fun hh => ?_) | refine E.at_block_other rfl ?_)
          all_goals first
            | (exfalso; omega)
            | (exfalso; simp at hh; done)
            | skip
          exact rd (α := Nat × V1 × List Eg × Nat × Bool × List Rw) (i + 1, ⟨vE, hE⟩, acc, 0, false, dn) ⟨by dsimp only; omega, Nat.zero_le _, by dsimp only; omega, fun h => (by cases h), fun _ => hN⟩ (hK := ksv)
        | some r =>
          obtain ⟨cc, q1⟩ := r
          have hle1 := numA_le hn1
          dsimp only at hle1
          cases hn2 : rowA (bn s) q1 with
          | none =>
            have hN : rowsA (bn s) n q0 = none := by rw [hG1, hs1]; simp [rowsA, hn1, hn2]
            repeat' (first | refine E.st ?_ | refine E.cl (h := fun _ w _ => c_s_NumAt_s w hn1) (k := ?_) | refine E.b0 (α := Int) (fun v14 h14 => ?_) | refine E.cm (h := fun w _ => c_s_RowAt_n w hn2) (k := fun z => E.wy z.2 (fun _ => ?_)) | refine E.q3 ?_ | refine E.q ?_ | refine E.qs ?_ | refine E.q2 ?_ | refine E.q4 ?_ | refine E.tr ?_ | refine E.ap (fun _ _ => ?_) | refine E.b1 (fun _ _ => ?_) | refine E.b0 (fun _ _ => ?_) | refine E.bsn (fun _ _ => ?_) | refine E.mk (fun _ _ => ?_) | refine E.bxO (fun _ => ?_) | refine E.al (fun _ => ?_) | refine E.sbO ?_ | refine E.dq ?_ | refine E.ct ?_ | refine E.cf ?_ | refine E.cs (fun hh => ?_) (fun hh => ?_) | refine E.at_block_other rfl ?_)
            (try any_goals (exfalso; rcases hh with hh | hh <;> first | omega | exact hh))
            refine lq (fun _ : Unit => True) (fun _ => [(15, .pl (.int .i64 0)), (11, .pl (.bool false)), (2, .pl (.int .i64 0))]) (fun _ => ([] : List Ck)) (fun _ => 0) () trivial (fun _ _ => ?_)
            repeat' (first | refine E.st ?_ | refine E.q3 ?_ | refine E.q ?_ | refine E.qs ?_ | refine E.q2 ?_ | refine E.q4 ?_ | refine E.tr ?_ | refine E.ap (fun _ _ => ?_) | refine E.b1 (fun _ _ => ?_) | refine E.b0 (fun _ _ => ?_) | refine E.bsn (fun _ _ => ?_) | refine E.mk (fun _ _ => ?_) | refine E.bxO (fun _ => ?_) | refine E.al (fun _ => ?_) | refine E.sbO ?_ | refine E.dq ?_ | refine E.ct ?_ | refine E.cf ?_ | refine E.cs (fun hh => ?_) (fun hh => ?_) | refine E.at_block_other rfl ?_)
            all_goals first
              | exact rd (α := Nat × V1 × List Eg × Nat × Bool × List Rw) (i + 1, ⟨vE, hE⟩, acc, 0, false, dn) ⟨by dsimp only; omega, Nat.zero_le _, by dsimp only; omega, fun h => (by cases h), fun _ => hN⟩ (hK := ksv)
              | (exfalso; simp_all; done)
              | (exfalso; omega)
              | trace_state
          | some r =>
            obtain ⟨row, q2⟩ := r
            have hle2 := rowA_le hn2
            have hbd := rowA_bd hn2
            dsimp only at hle2 hbd
            repeat' (first | refine E.st ?_ | refine E.cl (h := fun _ w _ => c_s_NumAt_s w hn1) (k := ?_) | refine E.b0 (α := Int) (fun v14 h14 => ?_) | refine E.cm (h := fun w _ => c_s_RowAt_s w hn2) (k := fun z => E.wy z.2 (fun _ => ?_)) | refine E.q3 ?_ | refine E.q ?_ | refine E.qs ?_ | refine E.q2 ?_ | refine E.q4 ?_ | refine E.tr ?_ | refine E.ap (fun _ _ => ?_) | refine E.b1 (fun _ _ => ?_) | refine E.b0 (fun _ _ => ?_) | refine E.bsn (fun _ _ => ?_) | refine E.mk (fun _ _ => ?_) | refine E.bxO (fun _ => ?_) | refine E.al (fun _ => ?_) | refine E.sbO ?_ | refine E.dq ?_ | refine E.ct ?_ | refine E.cf ?_ | refine E.cs (fun hh => ?_) (fun hh => ?_) | refine E.at_block_other rfl ?_)
            any_goals (exfalso; rcases hh with hh | hh <;> first | omega | exact hh)
            refine E.hcf [(15, .pl (.int .i64 0)), (11, .pl (.bool true)), (13, .pl (.int .i64 (cc : Int))), (2, .pl (.int .i64 (q2 : Int))), (14, .pl z.1), (12, .pl (.int .i64 (i : Int))), (10, .pl (.int .i64 (n : Int))), (1, .pl (.string s)), (3, .pl (.int .i64 a)), (4, .pl (.pointer (some ⟨g4, 0, none⟩))), (8, .pl (.pointer (some ⟨g8, 0, none⟩)))] ?_
            refine lq (fun y : Nat × V1 => y.1 ≤ row.length) (fun y => [(15, .pl (.int .i64 (y.1 : Int))), (11, .pl (.bool true)), (13, .pl (.int .i64 (cc : Int))), (2, .pl (.int .i64 (q2 : Int)))]) (fun y => [.box g4 45 [v, y.2.1], ownF 84 y.2.1 (acc ++ (row.take y.1).filterMap (edgeOf a cc))]) (fun y => row.length - y.1) (0, ⟨vE, hE⟩) (Nat.zero_le _) (fun y hy => ?_) (hK := by exact Spl.cons pk (Spl.ownF pk (by simp) (Spl.nil _)))
            obtain ⟨k, ⟨vF, hF⟩⟩ := y
            dsimp only at hy hF ⊢
            have hfl := fm_len (edgeOf a (cc : Int)) row k
            have hfl2 : (acc ++ (row.take k).filterMap (edgeOf a (cc : Int))).length ≤ 3000000 := by rw [List.length_append]; omega
            rcases Nat.lt_or_ge k row.length with hlt2 | hge2
            · obtain ⟨x, hx⟩ := get_lt hlt2
              have hbx := hbd x (List.mem_of_getElem? hx)
              have hfs := fm_step (f := edgeOf a (cc : Int)) hx
              by_cases hcx : (cc : Int) < x
              · have hst : acc ++ (row.take (k + 1)).filterMap (edgeOf a (cc : Int)) = (acc ++ (row.take k).filterMap (edgeOf a (cc : Int))) ++ [⟨a, nodeOf (cc : Int), nodeOf x⟩] := by
                  rw [hfs]; unfold edgeOf; rw [if_pos hcx]; simp
                repeat' (first | refine E.st ?_ | refine E.dx (i := 13) [0, 1, 3, 4, 5, 6, 2, 7, 8, 9, 10] ?_ | refine E.br2 (i := 2) (j := 9) ?_ ?_ | refine E.br2 (i := 7) (j := 9) ?_ ?_ | refine E.cl (h := fun _ w _ => c_l4Node w) (k := ?_)  | refine E.q3 ?_ | refine E.q ?_ | refine E.qs ?_ | refine E.q2 ?_ | refine E.q4 ?_ | refine E.tr ?_ | refine E.ap (fun _ _ => ?_) | refine E.b1 (fun _ _ => ?_) | refine E.b0 (fun _ _ => ?_) | refine E.bsn (fun _ _ => ?_) | refine E.mk (fun _ _ => ?_) | refine E.bxO (fun _ => ?_) | refine E.al (fun _ => ?_) | refine E.sbO ?_ | refine E.dq ?_ | refine E.ct ?_ | refine E.cf ?_ | refine E.cs (fun hh => ?_) (fun hh => ?_) | refine E.at_block_other rfl ?_)
                all_goals first
                  | (exfalso; rcases hh with hh | hh <;> first | omega | exact hh)
                  | (refine rd (α := Nat × V1) (k + 1, ⟨_, ?_⟩) hlt2 (hK := KSub.pick pk (KSub.ownF pk hst.symm ksv)); assumption)
              · have hst : acc ++ (row.take (k + 1)).filterMap (edgeOf a (cc : Int)) = acc ++ (row.take k).filterMap (edgeOf a (cc : Int)) := by
                  rw [hfs]; unfold edgeOf; rw [if_neg hcx]; simp
                repeat' (first | refine E.st ?_ | refine E.dx (i := 13) [0, 1, 3, 4, 5, 6, 2, 7, 8, 9, 10] ?_ | refine E.br2 (i := 2) (j := 9) ?_ ?_ | refine E.br2 (i := 7) (j := 9) ?_ ?_ | refine E.cl (h := fun _ w _ => c_l4Node w) (k := ?_)  | refine E.q3 ?_ | refine E.q ?_ | refine E.qs ?_ | refine E.q2 ?_ | refine E.q4 ?_ | refine E.tr ?_ | refine E.ap (fun _ _ => ?_) | refine E.b1 (fun _ _ => ?_) | refine E.b0 (fun _ _ => ?_) | refine E.bsn (fun _ _ => ?_) | refine E.mk (fun _ _ => ?_) | refine E.bxO (fun _ => ?_) | refine E.al (fun _ => ?_) | refine E.sbO ?_ | refine E.dq ?_ | refine E.ct ?_ | refine E.cf ?_ | refine E.cs (fun hh => ?_) (fun hh => ?_) | refine E.at_block_other rfl ?_)
                all_goals first
                  | (exfalso; rcases hh with hh | hh <;> first | omega | exact hh)
                  | exact rd (α := Nat × V1) (k + 1, ⟨vF, hF⟩) hlt2 (hK := KSub.pick pk (KSub.ownF pk hst.symm ksv))
            · rw [List.take_of_length_le hge2]
              rw [List.take_of_length_le hge2] at hfl hfl2
              have hS : rowsA (bn s) n q0 = (rowsA (bn s) (n - (i + 1)) q2).map (fun r => ((dn ++ [(⟨(cc : Int), row, q, q2⟩ : Rw)]) ++ r.1, r.2)) := by
                rw [hG1, hs1]
                simp only [rowsA, hn1, hn2, Option.map_map]
                congr 1
                funext r
                simp
              have hA : acc ++ row.filterMap (edgeOf a (cc : Int)) = es ++ (dn ++ [(⟨(cc : Int), row, q, q2⟩ : Rw)]).flatMap (rowEs a) := by
                rw [hG2, List.flatMap_append, List.append_assoc]
                congr 1
                simp [rowEs_eq]
              repeat' (first | refine E.st ?_ | refine E.q3 ?_ | refine E.q ?_ | refine E.qs ?_ | refine E.q2 ?_ | refine E.q4 ?_ | refine E.tr ?_ | refine E.ap (fun _ _ => ?_) | refine E.b1 (fun _ _ => ?_) | refine E.b0 (fun _ _ => ?_) | refine E.bsn (fun _ _ => ?_) | refine E.mk (fun _ _ => ?_) | refine E.bxO (fun _ => ?_) | refine E.al (fun _ => ?_) | refine E.sbO ?_ | refine E.dq ?_ | refine E.ct ?_ | refine E.cf ?_ | refine E.cs (fun hh => ?_) (fun hh => ?_) | refine E.at_block_other rfl ?_)
              all_goals first
                | (exfalso; omega)
                | (exfalso; simp at hh; done)
                | (exfalso; simp at hh; omega)
                | skip
              exact rd (α := Nat × V1 × List Eg × Nat × Bool × List Rw) (i + 1, ⟨vF, hF⟩, acc ++ row.filterMap (edgeOf a (cc : Int)), q2, true, dn ++ [(⟨(cc : Int), row, q, q2⟩ : Rw)]) ⟨by dsimp only; omega, by dsimp only; omega, by dsimp only; rw [List.length_append]; omega, fun _ => ⟨hS, hA⟩, fun h => by cases h⟩ (hK := ksv)
      · have hN : rowsA (bn s) n q0 = some (dn, q) := by rw [hG1, show n - i = 0 from by omega]; simp [rowsA]
        by_cases hqs : q = s.size
        · repeat' (first | refine E.st ?_ | refine E.q3 ?_ | refine E.q ?_ | refine E.qs ?_ | refine E.q2 ?_ | refine E.q4 ?_ | refine E.tr ?_ | refine E.ap (fun _ _ => ?_) | refine E.b1 (fun _ _ => ?_) | refine E.b0 (fun _ _ => ?_) | refine E.bsn (fun _ _ => ?_) | refine E.mk (fun _ _ => ?_) | refine E.bxO (fun _ => ?_) | refine E.al (fun _ => ?_) | refine E.sbO ?_ | refine E.dq ?_ | refine E.ct ?_ | refine E.cf ?_ | refine E.cs (fun hh => ?_) (fun hh => ?_) | refine E.at_block_other rfl ?_)
          all_goals first
            | (exfalso; omega)
            | (exfalso; simp at hh; done)
            | (exfalso; simp at hh; omega)
            | skip
          exact rnK (α := RwT es s p a) ⟨(⟨vE, hE⟩, acc, true), by dsimp only; omega, by rw [hR, hN, hqs]; simp, by rw [hR, hN]; intro rows h; simp only [Option.some.injEq, Prod.mk.injEq] at h; rw [← h.1]; exact hG2⟩ (hv := by have e : decide ((q : Int) = (s.size : Int)) = true := (by simp [hqs]); rw [e]; rfl) (hK := ksv)
        · have hne : ¬ ((q : Int) = (s.size : Int)) := by omega
          repeat' (first | refine E.st ?_ | refine E.q3 ?_ | refine E.q ?_ | refine E.qs ?_ | refine E.q2 ?_ | refine E.q4 ?_ | refine E.tr ?_ | refine E.ap (fun _ _ => ?_) | refine E.b1 (fun _ _ => ?_) | refine E.b0 (fun _ _ => ?_) | refine E.bsn (fun _ _ => ?_) | refine E.mk (fun _ _ => ?_) | refine E.bxO (fun _ => ?_) | refine E.al (fun _ => ?_) | refine E.sbO ?_ | refine E.dq ?_ | refine E.ct ?_ | refine E.cf ?_ | refine E.cs (fun hh => ?_) (fun hh => ?_) | refine E.at_block_other rfl ?_)
          all_goals first
            | (exfalso; omega)
            | (exfalso; simp at hh; done)
            | (exfalso; simp at hh; omega)
            | skip
          exact rnK (α := RwT es s p a) ⟨(⟨vE, hE⟩, acc, false), by dsimp only; omega, by rw [hR, hN]; simp [hqs], by rw [hR, hN]; intro rows h; simp only [Option.some.injEq, Prod.mk.injEq] at h; exact absurd h.2 hqs⟩ (hv := by have e : decide ((q : Int) = (s.size : Int)) = false := decide_eq_false hne; rw [e]; rfl) (hK := ksv)
end E
end Go.Proofs.YtpiiapoafmnhhaaGreat
