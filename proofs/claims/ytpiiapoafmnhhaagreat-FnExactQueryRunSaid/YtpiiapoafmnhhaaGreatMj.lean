/- A label's bytes are read, as the reference reads them. -/
import Derived.Test.YtpiiapoafmnhhaaGreatMi
namespace Go.Proofs.YtpiiapoafmnhhaaGreat
namespace E
open Go Go.RowKit
set_option linter.unusedSimpArgs false
set_option linter.unusedVariables false
set_option maxHeartbeats 1000000
set_option maxRecDepth 10000
attribute [local irreducible] HC HL HQ HX HO At Y YV Opd Opds KnX Sl Ld Src GV RV Calls Code.wp eptr adr RdF ownF OneX HG LdC
theorem clsA_eq {s : ByteArray} {nums : List Int} {h : Nat} (h1 : rowA (bn s) 0 = some (nums, h)) : ∀ rows, rowsR (bn s) h = some (rows, s.size) → clsA (bn s) = some ⟨nums, h, rows⟩ := by
  intro rows hr
  unfold rowsR at hr
  unfold clsA
  rw [h1]
  dsimp only
  cases hn : numA (bn s) h with
  | none => rw [hn] at hr; cases hr
  | some r =>
    obtain ⟨n, p⟩ := r
    rw [hn] at hr
    dsimp only at hr ⊢
    rw [hr]
    dsimp only
    rw [if_pos (bn_len s).symm]
theorem clsA_rows {s : ByteArray} {c : Cls} (h : clsA (bn s) = some c) : rowA (bn s) 0 = some (c.nums, c.hd) ∧ rowsR (bn s) c.hd = some (c.rows, s.size) := by
  obtain ⟨n, p, h1, h2, h3⟩ := clsA_parts h
  refine ⟨h1, ?_⟩
  unfold rowsR
  rw [h2]
  dsimp only
  rw [h3, bn_len]
theorem clsA_no {s : ByteArray} (h : rowA (bn s) 0 = none) : clsA (bn s) = none := by unfold clsA; rw [h]
abbrev RsT (ns : List Nd) (es : List Eg) (s : ByteArray) (a : Int) : Type := { z : V1 × V1 × List Nd × List Eg × Bool // z.2.2.1.length ≤ ns.length + 127 ∧ z.2.2.2.1.length ≤ es.length + 3000000 ∧ (z.2.2.2.2 = true ↔ ∃ c, clsA (bn s) = some c) ∧ ∀ c, clsA (bn s) = some c → z.2.2.1 = ns ++ clsNs a c ∧ z.2.2.2.1 = es ++ clsEs a c }
theorem c_l4Read {v u : Value} {ns : List Nd} {es : List Eg} {a : Int} {s : ByteArray} {w0 : World} {K : List Ck} (w : World) (hw : KOk w0 (ownF 32 v ns :: ownF 84 u es :: K) w) (hnl : ns.length ≤ 2000 := by omega) (hl : es.length ≤ 1000 := by omega) (hs : s.size ≤ 4000000 := by omega) :
    Calls Tryz.prog 122 #[.agg #[v, u], .agg #[.int .i64 a, .string s]] w (RetK (fun z : RsT ns es s a => .tuple #[.agg #[z.1.1.1, z.1.2.1.1], .bool z.1.2.2.2.2]) (fun z => ownF 32 z.1.1.1 z.1.2.2.1 :: ownF 84 z.1.2.1.1 z.1.2.2.2.1 :: K) w0) := by
  have o1 : v.oneCell' = true := (RdF.of_own (List.mem_cons_self) hw : RdF w v ns).one
  have o2 : u.oneCell' = true := (RdF.of_own (List.mem_cons_of_mem _ List.mem_cons_self) hw : RdF w u es).one
  cases hr0 : rowA (bn s) 0 with
  | none =>
    have hC : ∀ c, ¬ clsA (bn s) = some c := fun c h => by rw [clsA_no hr0] at h; cases h
    refine enterK (args := _) hw Tryz.func122 rfl Tryz.ntmps122 (by simp) ?_
    repeat' (first | refine E.st ?_ | refine E.cm (h := fun w _ => c_s_RowAt_n (p := 0) w hr0) (k := fun z => E.wy z.2 (fun _ => ?_)) | refine E.q3 ?_ | refine E.q ?_ | refine E.qs ?_ | refine E.q2 ?_ | refine E.q4 ?_ | refine E.tr ?_ | refine E.ap (fun _ _ => ?_) | refine E.b1 (fun _ _ => ?_) | refine E.b0 (fun _ _ => ?_) | refine E.bsn (fun _ _ => ?_) | refine E.mk (fun _ _ => ?_) | refine E.bxO (fun _ => ?_) | refine E.al (fun _ => ?_) | refine E.sbO ?_ | refine E.dq ?_ | refine E.ct ?_ | refine E.cf ?_ | refine E.cs (fun hh => ?_) (fun hh => ?_) | refine E.at_block_other rfl ?_)
    exact rnK (α := RsT ns es s a) ⟨(⟨v, o1⟩, ⟨u, o2⟩, ns, es, false), by dsimp only; omega, by dsimp only; omega, ⟨fun h => (by cases h), fun ⟨c, h⟩ => (hC c h).elim⟩, fun c h => (hC c h).elim⟩ (hK := ksv)
  | some r =>
    obtain ⟨nums, hd⟩ := r
    have hle := rowA_le hr0
    dsimp only at hle
    refine enterK (args := _) hw Tryz.func122 rfl Tryz.ntmps122 (by simp) ?_
    repeat' (first | refine E.st ?_ | refine E.bx (t := 45) (fun g2 => ?_) | refine E.bx (t := 65) (fun g3 => ?_) | refine E.cm (h := fun w _ => c_s_RowAt_s (p := 0) w hr0) (k := fun z => E.wy z.2 (fun _ => ?_)) | refine E.q3 ?_ | refine E.q ?_ | refine E.qs ?_ | refine E.q2 ?_ | refine E.q4 ?_ | refine E.tr ?_ | refine E.ap (fun _ _ => ?_) | refine E.b1 (fun _ _ => ?_) | refine E.b0 (fun _ _ => ?_) | refine E.bsn (fun _ _ => ?_) | refine E.mk (fun _ _ => ?_) | refine E.bxO (fun _ => ?_) | refine E.al (fun _ => ?_) | refine E.sbO ?_ | refine E.dq ?_ | refine E.ct ?_ | refine E.cf ?_ | refine E.cs (fun hh => ?_) (fun hh => ?_) | refine E.at_block_other rfl ?_)
    refine lq (fun p : Nat × V1 => p.1 ≤ nums.length) (fun p => [(9, .pl (.int .i64 (p.1 : Int)))]) (fun p => [.box g2 45 [p.2.1, u], ownF 32 p.2.1 (ns ++ (nums.take p.1).map (fun n => (⟨a, n⟩ : Nd)))]) (fun p => nums.length - p.1) (0, ⟨v, o1⟩) (Nat.zero_le _) (fun p hp => ?_) (hK := by exact Spl.cons pk (Spl.ownF pk (by simp) (Spl.nil _)))
    obtain ⟨k, ⟨vN, hN⟩⟩ := p
    dsimp only at hp hN ⊢
    have hln : (ns ++ (nums.take k).map (fun n => (⟨a, n⟩ : Nd))).length ≤ ns.length + 127 := by
      rw [List.length_append, List.length_map, List.length_take]; omega
    rcases Nat.lt_or_ge k nums.length with hlt | hge
    · obtain ⟨x, hx⟩ := get_lt hlt
      have hst : ns ++ (nums.take (k + 1)).map (fun n => (⟨a, n⟩ : Nd)) = (ns ++ (nums.take k).map (fun n => (⟨a, n⟩ : Nd))) ++ [⟨a, x⟩] := by
        rw [List.take_add_one, hx]; simp
      repeat' (first | refine E.st ?_ | refine E.dxo (i := 7) vN [0, 1, 2, 3, 4, 5, 6, 7, 8, 9, 10, 11, 12] ?_ | refine E.q3 ?_ | refine E.q ?_ | refine E.qs ?_ | refine E.q2 ?_ | refine E.q4 ?_ | refine E.tr ?_ | refine E.ap (fun _ _ => ?_) | refine E.b1 (fun _ _ => ?_) | refine E.b0 (fun _ _ => ?_) | refine E.bsn (fun _ _ => ?_) | refine E.mk (fun _ _ => ?_) | refine E.bxO (fun _ => ?_) | refine E.al (fun _ => ?_) | refine E.sbO ?_ | refine E.dq ?_ | refine E.ct ?_ | refine E.cf ?_ | refine E.cs (fun hh => ?_) (fun hh => ?_) | refine E.at_block_other rfl ?_)
      exact rd (α := Nat × V1) (k + 1, ⟨_, by assumption⟩) hlt (hK := KSub.pick pk (KSub.ownF pk hst.symm ksv))
    · rw [List.take_of_length_le hge] at hln ⊢
      repeat' (first | refine E.st ?_ | refine E.ckq (h := fun w hw => c_l4Rows (a := a) w hw) (k := fun z => E.wy z.1.1.2 (fun _ => ?_)) | refine E.q3 ?_ | refine E.q ?_ | refine E.qs ?_ | refine E.q2 ?_ | refine E.q4 ?_ | refine E.tr ?_ | refine E.ap (fun _ _ => ?_) | refine E.b1 (fun _ _ => ?_) | refine E.b0 (fun _ _ => ?_) | refine E.bsn (fun _ _ => ?_) | refine E.mk (fun _ _ => ?_) | refine E.bxO (fun _ => ?_) | refine E.al (fun _ => ?_) | refine E.sbO ?_ | refine E.dq ?_ | refine E.ct ?_ | refine E.cf ?_ | refine E.cs (fun hh => ?_) (fun hh => ?_) | refine E.at_block_other rfl ?_)
      refine rnK (α := RsT ns es s a) ⟨(⟨vN, hN⟩, z.1.1, ns ++ nums.map (fun n => (⟨a, n⟩ : Nd)), z.1.2.1, z.1.2.2), hln, z.2.1, ⟨fun h => ?_, fun ⟨c, hc⟩ => ?_⟩, fun c hc => ?_⟩ (hK := ksv)
      · obtain ⟨rows, hr⟩ := z.2.2.1.1 h
        exact ⟨_, clsA_eq hr0 rows hr⟩
      · have h2 := clsA_rows hc
        rw [hr0] at h2
        simp only [Option.some.injEq, Prod.mk.injEq] at h2
        exact z.2.2.1.2 ⟨c.rows, by rw [h2.1.2]; exact h2.2⟩
      · have h2 := clsA_rows hc
        rw [hr0] at h2
        simp only [Option.some.injEq, Prod.mk.injEq] at h2
        exact ⟨by dsimp only; rw [h2.1.1]; rfl, z.2.2.2 c.rows (by rw [h2.1.2]; exact h2.2)⟩
end E
end Go.Proofs.YtpiiapoafmnhhaaGreat
