/- Lists in new memory; pools, as the program uses them. -/
import Derived.Test.YtpiiapoafmnhhaaGreatM05
import Derived.Test.YtpiiapoafmnhhaaGreatM16
namespace Go.Proofs.YtpiiapoafmnhhaaGreat
namespace E
open Go Go.RowKit
set_option linter.unusedSimpArgs false
set_option linter.unusedVariables false
set_option maxHeartbeats 1000000
set_option maxRecDepth 10000
attribute [local irreducible] HC HL HQ HX HO At Y YV Opd Opds KnX Sl Ld Src GV RV Calls Code.wp eptr adr RdF ownF OneX HG LdC
theorem c_copyPg {v : Value} {ps : List Pg} (w : World) (hr : RdF w v ps := by exact rdA) (hn : ps.length ≤ 1048576 := by omega) : Calls Tryz.prog 102 #[v] w (Ret (fun z : V1 => z.1) (fun z => [ownF 63 z.1 ps]) w) := by
  by_cases hps : ps = []
  · have hl : ps.length = 0 := by rw [hps]; rfl
    refine enter (args := _) Tryz.func102 rfl Tryz.ntmps102 (by simp) ?_
    refine E.nl 63 (α := Pg) ?_
    repeat' (first | refine E.st ?_ | refine E.q3 ?_ | refine E.q ?_ | refine E.qs ?_ | refine E.q2 ?_ | refine E.q4 ?_ | refine E.tr ?_ | refine E.ap (fun _ _ => ?_) | refine E.b1 (fun _ _ => ?_) | refine E.b0 (fun _ _ => ?_) | refine E.bsn (fun _ _ => ?_) | refine E.mk (fun _ _ => ?_) | refine E.bxO (fun _ => ?_) | refine E.al (fun _ => ?_) | refine E.sbO ?_ | refine E.dq ?_ | refine E.ct ?_ | refine E.cf ?_ | refine E.cs (fun hh => ?_) (fun hh => ?_) | refine E.at_block_other rfl ?_)
    exact r1 (α := V1) ⟨_, rfl⟩ (hK := KSub.ownF pk hps.symm ks)
  · have hl : 0 < ps.length := List.length_pos_iff.2 hps
    refine enter (args := _) Tryz.func102 rfl Tryz.ntmps102 (by simp) ?_
    repeat' (first | refine E.st ?_ | refine E.mk (α := Pg) (z' := ⟨0, 0⟩) (fun _ _ => ?_) | refine E.cp (hs := RdIn.rd hr) ?_ | refine E.q3 ?_ | refine E.q ?_ | refine E.qs ?_ | refine E.q2 ?_ | refine E.q4 ?_ | refine E.tr ?_ | refine E.ap (fun _ _ => ?_) | refine E.b1 (fun _ _ => ?_) | refine E.b0 (fun _ _ => ?_) | refine E.bsn (fun _ _ => ?_) | refine E.mk (fun _ _ => ?_) | refine E.bxO (fun _ => ?_) | refine E.al (fun _ => ?_) | refine E.sbO ?_ | refine E.dq ?_ | refine E.ct ?_ | refine E.cf ?_ | refine E.cs (fun hh => ?_) (fun hh => ?_) | refine E.at_block_other rfl ?_)
    exact r1 (α := V1) ⟨_, by assumption⟩
theorem calls_svR {P : Program} {α : Type} [Flat α] {f : FuncId} {args : Array Value} {w : World} {e : TypeId} {xs : List α} (h : Calls P f args w (Ret (fun v : V1 => v.1) (fun v => [ownF e v.1 xs]) w)) :
    Calls P f args w (Ret (fun s : Sv => .slice s.a s.n s.c) (fun s => [ownF e (.slice s.a s.n s.c) xs]) w) := h.mono fun en w' ⟨v, he, hk⟩ => by
  obtain ⟨v, hv⟩ := v
  obtain ⟨s, rfl⟩ := ownF_sv (List.mem_cons_self) hk
  exact ⟨s, he, hk⟩
def useL (xs : List Pg) (x : Pg) : List Pg := x :: xs.filter (fun y => !decide (y = x))
theorem useL_len (xs : List Pg) (x : Pg) : (useL xs x).length ≤ xs.length + 1 := by
  unfold useL; rw [List.length_cons]; have := List.length_filter_le (fun y => !decide (y = x)) xs; omega
theorem useL_step {xs : List Pg} {k : Nat} {y x : Pg} (h : xs[k]? = some y) : useL (xs.take (k + 1)) x = useL (xs.take k) x ++ if y = x then [] else [y] := by
  unfold useL
  rw [take_filter_step _ h, List.cons_append]
  by_cases e : y = x <;> simp [e]
theorem c_use {g : Nat} {z l a : Int} {A : Option Addr} {n c : Nat} {xs : List Pg} {w0 : World} {K : List Ck} (w : World) (hw : KOk w0 (.box g 68 [.int .i64 z, .slice A n c] :: ownF 63 (.slice A n c) xs :: K) w) (hz : 0 ≤ z ∧ z ≤ 1000 := by omega) (hl : xs.length ≤ 1000 := by omega) :
    Calls Tryz.prog 103 #[.pointer (some ⟨g, 0, none⟩), .agg #[.int .i64 l, .int .i64 a]] w (RetK (fun _ : Sv => .bool (decide ((⟨l, a⟩ : Pg) ∈ xs))) (fun s => .box g 68 [.int .i64 z, .slice s.a s.n s.c] :: ownF 63 (.slice s.a s.n s.c) (useP ⟨z, xs⟩ ⟨l, a⟩).l :: K) w0) := by
  have hU : (useP ⟨z, xs⟩ ⟨l, a⟩).l = (useL xs ⟨l, a⟩).take z.toNat := rfl
  have hul := useL_len xs ⟨l, a⟩
  rw [hU]
  refine enterK (args := _) hw Tryz.func103 rfl Tryz.ntmps103 (by simp) ?_
  repeat' (first | refine E.st ?_ | refine E.q3 ?_ | refine E.q ?_ | refine E.qs ?_ | refine E.q2 ?_ | refine E.q4 ?_ | refine E.tr ?_ | refine E.ap (fun _ _ => ?_) | refine E.b1 (fun _ _ => ?_) | refine E.b0 (fun _ _ => ?_) | refine E.bsn (fun _ _ => ?_) | refine E.mk (fun _ _ => ?_) | refine E.bxO (fun _ => ?_) | refine E.al (fun _ => ?_) | refine E.sbO ?_ | refine E.dq ?_ | refine E.ct ?_ | refine E.cf ?_ | refine E.cs (fun hh => ?_) (fun hh => ?_) | refine E.at_block_other rfl ?_)
  rename_i v0 h0
  refine lq (fun p : Nat × V1 => p.1 ≤ xs.length) (fun p => [(16, .pl (.int .i64 (p.1 : Int))), (5, .pl p.2.1)]) (fun p => [ownF 63 p.2.1 (useL (xs.take p.1) ⟨l, a⟩)]) (fun p => xs.length - p.1) (0, ⟨v0, h0⟩) (Nat.zero_le _) (fun p hp => ?_)
  obtain ⟨k, ⟨v5, h5⟩⟩ := p
  dsimp only at hp h5 ⊢
  have hlk := useL_len (xs.take k) ⟨l, a⟩
  have htk : (xs.take k).length ≤ k := List.length_take_le _ _
  rcases Nat.lt_or_ge k xs.length with hlt | hge
  · obtain ⟨⟨yl, ya⟩, hy⟩ := get_lt hlt
    have hst := useL_step (x := ⟨l, a⟩) hy
    by_cases he : (⟨yl, ya⟩ : Pg) = ⟨l, a⟩
    · rw [if_pos he, List.append_nil] at hst
      injection he with e1 e2
      subst e1 e2
      repeat' (first | refine E.st ?_ | refine E.q3 ?_ | refine E.q ?_ | refine E.qs ?_ | refine E.q2 ?_ | refine E.q4 ?_ | refine E.tr ?_ | refine E.ap (fun _ _ => ?_) | refine E.b1 (fun _ _ => ?_) | refine E.b0 (fun _ _ => ?_) | refine E.bsn (fun _ _ => ?_) | refine E.mk (fun _ _ => ?_) | refine E.bxO (fun _ => ?_) | refine E.al (fun _ => ?_) | refine E.sbO ?_ | refine E.dq ?_ | refine E.ct ?_ | refine E.cf ?_ | refine E.cs (fun hh => ?_) (fun hh => ?_) | refine E.at_block_other rfl ?_)
      all_goals first
        | exact rd (α := Nat × V1) (k + 1, ⟨v5, h5⟩) hlt (hK := KSub.ownF pk hst.symm ksv)
        | (exfalso; simp_all; done)
        | trace_state
    · rw [if_neg he] at hst
      have he2 : ¬ [yl, ya] = [l, a] := by intro h; apply he; simp_all
      repeat' (first | refine E.st ?_ | refine E.q3 ?_ | refine E.q ?_ | refine E.qs ?_ | refine E.q2 ?_ | refine E.q4 ?_ | refine E.tr ?_ | refine E.ap (fun _ _ => ?_) | refine E.b1 (fun _ _ => ?_) | refine E.b0 (fun _ _ => ?_) | refine E.bsn (fun _ _ => ?_) | refine E.mk (fun _ _ => ?_) | refine E.bxO (fun _ => ?_) | refine E.al (fun _ => ?_) | refine E.sbO ?_ | refine E.dq ?_ | refine E.ct ?_ | refine E.cf ?_ | refine E.cs (fun hh => ?_) (fun hh => ?_) | refine E.at_block_other rfl ?_)
      all_goals first
        | exact rd (α := Nat × V1) (k + 1, ⟨_, by assumption⟩) hlt (hK := KSub.ownF pk hst.symm ksv)
        | (exfalso; simp_all; done)
        | trace_state
  · rw [List.take_of_length_le hge] at hlk ⊢
    rcases Int.lt_or_le z ((useL xs ⟨l, a⟩).length : Int) with hzl | hzl
    · have hm : z.toNat ≤ (useL xs ⟨l, a⟩).length := by omega
      have hmn : (if z < ((useL xs ⟨l, a⟩).length : Int) then z else ((useL xs ⟨l, a⟩).length : Int)) = ((z.toNat : Nat) : Int) := by rw [if_pos hzl]; omega
      have hpr : RdIn w0 [ownF 63 v5 (useL xs ⟨l, a⟩)] (pre v5 z.toNat) ((useL xs ⟨l, a⟩).take z.toNat) := RdIn.pre (RdIn.own List.mem_cons_self) hm
      have hcp : ∀ w, RdF w (pre v5 z.toNat) ((useL xs ⟨l, a⟩).take z.toNat) → Calls Tryz.prog 102 #[pre v5 z.toNat] w (Ret (fun s : Sv => .slice s.a s.n s.c) (fun s => [ownF 63 (.slice s.a s.n s.c) ((useL xs ⟨l, a⟩).take z.toNat)]) w) := fun w h => calls_svR (c_copyPg w h (by rw [List.length_take]; omega))
      repeat' (first | refine E.st ?_ | refine E.dxa [0, 1, 2, 3, 4, 5, 6] ?_ | refine E.cl (h := fun _ w _ => c_hasPg w) (k := ?_) | refine E.q (hy := y_eqI a_min hmn) ?_ | refine E.cm (h := fun w hw => hcp w (RdIn.att hpr hw)) (k := fun s => ?_) | refine E.q3 ?_ | refine E.q ?_ | refine E.qs ?_ | refine E.q2 ?_ | refine E.q4 ?_ | refine E.tr ?_ | refine E.ap (fun _ _ => ?_) | refine E.b1 (fun _ _ => ?_) | refine E.b0 (fun _ _ => ?_) | refine E.bsn (fun _ _ => ?_) | refine E.mk (fun _ _ => ?_) | refine E.bxO (fun _ => ?_) | refine E.al (fun _ => ?_) | refine E.sbO ?_ | refine E.dq ?_ | refine E.ct ?_ | refine E.cf ?_ | refine E.cs (fun hh => ?_) (fun hh => ?_) | refine E.at_block_other rfl ?_)
      all_goals first
        | exact r1K s (hK := ksv)
        | trace_state
    · have hT : (useL xs ⟨l, a⟩).take z.toNat = useL xs ⟨l, a⟩ := List.take_of_length_le (by omega)
      rw [hT]
      have hmn : (if z < ((useL xs ⟨l, a⟩).length : Int) then z else ((useL xs ⟨l, a⟩).length : Int)) = (((useL xs ⟨l, a⟩).length : Nat) : Int) := if_neg (by omega)
      have hpr : RdIn w0 [ownF 63 v5 (useL xs ⟨l, a⟩)] (pre v5 (useL xs ⟨l, a⟩).length) ((useL xs ⟨l, a⟩).take (useL xs ⟨l, a⟩).length) := RdIn.pre (RdIn.own List.mem_cons_self) (Nat.le_refl _)
      rw [List.take_length] at hpr
      have hcp : ∀ w, RdF w (pre v5 (useL xs ⟨l, a⟩).length) (useL xs ⟨l, a⟩) → Calls Tryz.prog 102 #[pre v5 (useL xs ⟨l, a⟩).length] w (Ret (fun s : Sv => .slice s.a s.n s.c) (fun s => [ownF 63 (.slice s.a s.n s.c) (useL xs ⟨l, a⟩)]) w) := fun w h => calls_svR (c_copyPg w h (by omega))
      repeat' (first | refine E.st ?_ | refine E.dxa [0, 1, 2, 3, 4, 5, 6] ?_ | refine E.cl (h := fun _ w _ => c_hasPg w) (k := ?_) | refine E.q (hy := y_eqI a_min hmn) ?_ | refine E.cm (h := fun w hw => hcp w (RdIn.att hpr hw)) (k := fun s => ?_) | refine E.q3 ?_ | refine E.q ?_ | refine E.qs ?_ | refine E.q2 ?_ | refine E.q4 ?_ | refine E.tr ?_ | refine E.ap (fun _ _ => ?_) | refine E.b1 (fun _ _ => ?_) | refine E.b0 (fun _ _ => ?_) | refine E.bsn (fun _ _ => ?_) | refine E.mk (fun _ _ => ?_) | refine E.bxO (fun _ => ?_) | refine E.al (fun _ => ?_) | refine E.sbO ?_ | refine E.dq ?_ | refine E.ct ?_ | refine E.cf ?_ | refine E.cs (fun hh => ?_) (fun hh => ?_) | refine E.at_block_other rfl ?_)
      all_goals first
        | exact r1K s (hK := ksv)
        | trace_state
end E
end Go.Proofs.YtpiiapoafmnhhaaGreat
