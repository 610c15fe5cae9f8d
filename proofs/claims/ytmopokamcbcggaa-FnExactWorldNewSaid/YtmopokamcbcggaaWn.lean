/- Worlds of people alone: both sides; what marks and holds them. -/
import Derived.Test.YtmopokamcbcggaaSb
namespace Go.Proofs.Ytmopokamcbcggaa
namespace E
open Go Go.RowKit
set_option linter.unusedSimpArgs false
set_option linter.unusedVariables false
set_option maxHeartbeats 1000000
set_option maxRecDepth 10000
attribute [local irreducible] HC HL HQ HX HO At Y YV Opd Opds KnX Sl Ld Src GV RV Calls Code.wp eptr adr RdF ownF OneX HG LdC
instance : Mark PlR := ⟨1, fun i => ⟨i, none, 0, 0⟩⟩
/-- The people of a new world. -/
def wn (ps : List Pe) : List Pe := if PsOk ps then ps else []
def wnq (ps : List Pe) : List PlR := ps.map (fun p => ⟨p.z, none, 0, 0⟩)
def wnl (ps : List Pe) : List Int := ps.map (fun p => p.q)
def wnw (ps : List Pe) : Wd := ⟨ps, [], [], ps.map (fun p => ⟨p.z, []⟩), ps.map (fun p => p.q)⟩
theorem wn_le (ps : List Pe) : (wn ps).length ≤ 4 := by
  unfold wn
  split
  · rename_i h
    exact h.2
  · simp
abbrev V3 := { p : Value × Value × Value // p.1.oneCell' = true ∧ p.2.1.oneCell' = true ∧ p.2.2.oneCell' = true }
theorem c_copyPe {v : Value} {ps : List Pe} (w : World) (hr : RdF w v ps := by exact rdA) (hn : ps.length ≤ 1048576 := by omega) : Calls Try.prog 65 #[v] w (Ret (fun z : { v' : Value // v'.oneCell' = true } => z.1) (fun z => [ownF 69 z.1 ps]) w) := by
  by_cases hps : ps = []
  · have hl : ps.length = 0 := by rw [hps]; rfl
    refine enter (args := _) Try.func65 rfl Try.ntmps65 (by simp) ?_
    refine E.nl 69 (α := Pe) ?_
    repeat' (first | refine E.st ?_ | refine E.q3 ?_ | refine E.q ?_ | refine E.qs ?_ | refine E.q2 ?_ | refine E.q4 ?_ | refine E.tr ?_ | refine E.ap (fun _ _ => ?_) | refine E.b1 (fun _ _ => ?_) | refine E.b0 (fun _ _ => ?_) | refine E.bsn (fun _ _ => ?_) | refine E.mk (fun _ _ => ?_) | refine E.bxO (fun _ => ?_) | refine E.al (fun _ => ?_) | refine E.sbO ?_ | refine E.dq ?_ | refine E.ct ?_ | refine E.cf ?_ | refine E.cs (fun hh => ?_) (fun hh => ?_) | refine E.at_block_other rfl ?_)
    exact r1 (α := { v' : Value // v'.oneCell' = true }) ⟨_, rfl⟩ (hK := KSub.ownF pk hps.symm ks)
  · have hl : 0 < ps.length := List.length_pos_iff.2 hps
    refine enter (args := _) Try.func65 rfl Try.ntmps65 (by simp) ?_
    repeat' (first | refine E.st ?_ | refine E.mk (α := Pe) (z' := ⟨0, 0, 0⟩) (fun _ _ => ?_) | refine E.cp (hs := RdIn.rd hr) ?_ | refine E.q3 ?_ | refine E.q ?_ | refine E.qs ?_ | refine E.q2 ?_ | refine E.q4 ?_ | refine E.tr ?_ | refine E.ap (fun _ _ => ?_) | refine E.b1 (fun _ _ => ?_) | refine E.b0 (fun _ _ => ?_) | refine E.bsn (fun _ _ => ?_) | refine E.mk (fun _ _ => ?_) | refine E.bxO (fun _ => ?_) | refine E.al (fun _ => ?_) | refine E.sbO ?_ | refine E.dq ?_ | refine E.ct ?_ | refine E.cf ?_ | refine E.cs (fun hh => ?_) (fun hh => ?_) | refine E.at_block_other rfl ?_)
    exact r1 (α := { v' : Value // v'.oneCell' = true }) ⟨_, by assumption⟩
theorem c_s_WorldNew {v : Value} {ps : List Pe} (w : World) (hr : RdF w v ps := by exact rdA) : Calls Try.prog 16 #[v] w (Ret (fun z : V3 => .agg #[z.1.1, .slice none 0 0, .slice none 0 0, z.1.2.1, z.1.2.2]) (fun z => [ownF 69 z.1.1 (wn ps), ownF 98 z.1.2.1 (wnq (wn ps)), ownF 3 z.1.2.2 (wnl (wn ps))]) w) := by
  have o1 := hr.one
  have m1 := hr.le
  simp only [maxLen] at m1
  by_cases hok : PsOk ps
  · have hn := hok.2
    have hw' : wn ps = ps := if_pos hok
    rw [hw']
    refine enter (args := _) Try.func16 rfl Try.ntmps16 (by simp) ?_
    refine E.nl 98 (α := PlR) ?_
    refine E.nl 3 (α := Int) ?_
    repeat' (first | refine E.st ?_ | refine E.cl (h := fun _ w _ => c_l7People w) (k := ?_) | refine E.al (fun g3 => ?_) | refine E.ap (α := Pe) (xs := []) (ys := ps) (fun v1 h1 => ?_) | refine E.q3 ?_ | refine E.q ?_ | refine E.qs ?_ | refine E.q2 ?_ | refine E.q4 ?_ | refine E.tr ?_ | refine E.ap (fun _ _ => ?_) | refine E.b1 (fun _ _ => ?_) | refine E.b0 (fun _ _ => ?_) | refine E.bsn (fun _ _ => ?_) | refine E.mk (fun _ _ => ?_) | refine E.bxO (fun _ => ?_) | refine E.al (fun _ => ?_) | refine E.sbO ?_ | refine E.dq ?_ | refine E.ct ?_ | refine E.cf ?_ | refine E.cs (fun hh => ?_) (fun hh => ?_) | refine E.at_block_other rfl ?_)
    refine lq (fun z : Nat × { q : Value × Value // q.1.oneCell' = true ∧ q.2.oneCell' = true } => z.1 ≤ ps.length) (fun z => [(4, .pl (.int .i64 (z.1 : Int)))]) (fun z => [.box g3 40 [v1, .slice none 0 0, .slice none 0 0, z.2.1.1, z.2.1.2], ownF 98 z.2.1.1 (wnq (ps.take z.1)), ownF 3 z.2.1.2 (wnl (ps.take z.1))]) (fun z => ps.length - z.1) (0, ⟨(.slice none 0 0, .slice none 0 0), rfl, rfl⟩) (Nat.zero_le _) (fun z hz => ?_) (hK := Spl.box pk rfl (Spl.ownF pk (by simp [wnq]) (Spl.ownF pk (by simp [wnl]) (Spl.nil _))))
    obtain ⟨k, ⟨⟨u4, u5⟩, o4, o5⟩⟩ := z
    dsimp only at hz o4 o5 ⊢
    have l4 : (wnq (ps.take k)).length ≤ 4 := by simp [wnq]; omega
    have l5 : (wnl (ps.take k)).length ≤ 4 := by simp [wnl]; omega
    rcases Nat.lt_or_ge k ps.length with hlt | hge
    · obtain ⟨x, hx⟩ := get_lt hlt
      have e4 : wnq (ps.take (k + 1)) = wnq (ps.take k) ++ [⟨x.z, none, 0, 0⟩] := by simp [wnq, List.take_add_one, hx]
      have e5 : wnl (ps.take (k + 1)) = wnl (ps.take k) ++ [x.q] := by simp [wnl, List.take_add_one, hx]
      repeat' (first | refine E.st ?_ | refine E.dxo u4 [0, 1, 2, 3, 4, 5, 6, 7, 8, 9, 10, 11] ?_ | refine E.dxo u5 [0, 1, 2, 3, 4, 5, 6, 7, 8, 9, 10] ?_ | refine E.q3 ?_ | refine E.q ?_ | refine E.qs ?_ | refine E.q2 ?_ | refine E.q4 ?_ | refine E.tr ?_ | refine E.ap (fun _ _ => ?_) | refine E.b1 (fun _ _ => ?_) | refine E.b0 (fun _ _ => ?_) | refine E.bsn (fun _ _ => ?_) | refine E.mk (fun _ _ => ?_) | refine E.bxO (fun _ => ?_) | refine E.al (fun _ => ?_) | refine E.sbO ?_ | refine E.dq ?_ | refine E.ct ?_ | refine E.cf ?_ | refine E.cs (fun hh => ?_) (fun hh => ?_) | refine E.at_block_other rfl ?_)
      refine rd (α := Nat × { q : Value × Value // q.1.oneCell' = true ∧ q.2.oneCell' = true }) (k + 1, ⟨(_, _), ?_⟩) hlt (hK := KSub.box pk rfl (KSub.ownF pk e4.symm (KSub.ownF pk e5.symm ks)))
      exact ⟨by assumption, by assumption⟩
    · repeat' (first | refine E.st ?_ | refine E.q3 ?_ | refine E.q ?_ | refine E.qs ?_ | refine E.q2 ?_ | refine E.q4 ?_ | refine E.tr ?_ | refine E.ap (fun _ _ => ?_) | refine E.b1 (fun _ _ => ?_) | refine E.b0 (fun _ _ => ?_) | refine E.bsn (fun _ _ => ?_) | refine E.mk (fun _ _ => ?_) | refine E.bxO (fun _ => ?_) | refine E.al (fun _ => ?_) | refine E.sbO ?_ | refine E.dq ?_ | refine E.ct ?_ | refine E.cf ?_ | refine E.cs (fun hh => ?_) (fun hh => ?_) | refine E.at_block_other rfl ?_)
      have hke : k = ps.length := by omega
      subst hke
      exact r1 (α := V3) ⟨(v1, u4, u5), ⟨h1, o4, o5⟩⟩ (hK := KSub.ownF pk rfl (KSub.ownF pk (by rw [List.take_length]) (KSub.ownF pk (by rw [List.take_length]) (KSub.nil _))))
  · have hw' : wn ps = [] := if_neg hok
    rw [hw']
    refine enter (args := _) Try.func16 rfl Try.ntmps16 (by simp) ?_
    refine E.nl 69 (α := Pe) ?_
    refine E.nl 98 (α := PlR) ?_
    refine E.nl 3 (α := Int) ?_
    repeat' (first | refine E.st ?_ | refine E.cl (h := fun _ w _ => c_l7People w) (k := ?_)  | refine E.q3 ?_ | refine E.q ?_ | refine E.qs ?_ | refine E.q2 ?_ | refine E.q4 ?_ | refine E.tr ?_ | refine E.ap (fun _ _ => ?_) | refine E.b1 (fun _ _ => ?_) | refine E.b0 (fun _ _ => ?_) | refine E.bsn (fun _ _ => ?_) | refine E.mk (fun _ _ => ?_) | refine E.bxO (fun _ => ?_) | refine E.al (fun _ => ?_) | refine E.sbO ?_ | refine E.dq ?_ | refine E.ct ?_ | refine E.cf ?_ | refine E.cs (fun hh => ?_) (fun hh => ?_) | refine E.at_block_other rfl ?_)
    exact r1 (α := V3) ⟨(_, _, _), ⟨rfl, rfl, rfl⟩⟩
theorem c_i_WorldNew {v : Value} {ps : List Pe} (w : World) (hr : RdF w v ps := by exact rdA) : Calls Try.prog 18 #[v] w (Ret (fun z : V3 => .agg #[z.1.1, .slice none 0 0, .slice none 0 0, z.1.2.1, z.1.2.2]) (fun z => [ownF 69 z.1.1 (wn ps), ownF 98 z.1.2.1 (wnq (wn ps)), ownF 3 z.1.2.2 (wnl (wn ps))]) w) := by
  have o1 := hr.one
  have m1 := hr.le
  simp only [maxLen] at m1
  by_cases hok : PsOk ps
  · have hn := hok.2
    have hw' : wn ps = ps := if_pos hok
    rw [hw']
    refine enter (args := _) Try.func18 rfl Try.ntmps18 (by simp) ?_
    refine E.nl 98 (α := PlR) ?_
    refine E.nl 3 (α := Int) ?_
    repeat' (first | refine E.st ?_ | refine E.cl (h := fun _ w _ => c_peopleOk w) (k := ?_) | refine E.al (fun g3 => ?_) | refine E.cm (h := fun w _ => c_copyPe w) (k := fun v1 => E.wz v1.2 (fun _ => ?_)) | refine E.q3 ?_ | refine E.q ?_ | refine E.qs ?_ | refine E.q2 ?_ | refine E.q4 ?_ | refine E.tr ?_ | refine E.ap (fun _ _ => ?_) | refine E.b1 (fun _ _ => ?_) | refine E.b0 (fun _ _ => ?_) | refine E.bsn (fun _ _ => ?_) | refine E.mk (fun _ _ => ?_) | refine E.bxO (fun _ => ?_) | refine E.al (fun _ => ?_) | refine E.sbO ?_ | refine E.dq ?_ | refine E.ct ?_ | refine E.cf ?_ | refine E.cs (fun hh => ?_) (fun hh => ?_) | refine E.at_block_other rfl ?_)
    refine lq (fun z : Nat × { q : Value × Value // q.1.oneCell' = true ∧ q.2.oneCell' = true } => z.1 ≤ ps.length) (fun z => [(15, .pl (.int .i64 (z.1 : Int)))]) (fun z => [.box g3 40 [v1.1, .slice none 0 0, .slice none 0 0, z.2.1.1, z.2.1.2], ownF 98 z.2.1.1 (wnq (ps.take z.1)), ownF 3 z.2.1.2 (wnl (ps.take z.1))]) (fun z => ps.length - z.1) (0, ⟨(.slice none 0 0, .slice none 0 0), rfl, rfl⟩) (Nat.zero_le _) (fun z hz => ?_) (hK := Spl.box pk rfl (Spl.ownF pk (by simp [wnq]) (Spl.ownF pk (by simp [wnl]) (Spl.nil _))))
    obtain ⟨k, ⟨⟨u4, u5⟩, o4, o5⟩⟩ := z
    dsimp only at hz o4 o5 ⊢
    have l4 : (wnq (ps.take k)).length ≤ 4 := by simp [wnq]; omega
    have l5 : (wnl (ps.take k)).length ≤ 4 := by simp [wnl]; omega
    rcases Nat.lt_or_ge k ps.length with hlt | hge
    · obtain ⟨x, hx⟩ := get_lt hlt
      have e4 : wnq (ps.take (k + 1)) = wnq (ps.take k) ++ [⟨x.z, none, 0, 0⟩] := by simp [wnq, List.take_add_one, hx]
      have e5 : wnl (ps.take (k + 1)) = wnl (ps.take k) ++ [x.q] := by simp [wnl, List.take_add_one, hx]
      repeat' (first | refine E.st ?_ | refine E.q3 ?_ | refine E.q ?_ | refine E.qs ?_ | refine E.q2 ?_ | refine E.q4 ?_ | refine E.tr ?_ | refine E.ap (fun _ _ => ?_) | refine E.b1 (fun _ _ => ?_) | refine E.b0 (fun _ _ => ?_) | refine E.bsn (fun _ _ => ?_) | refine E.mk (fun _ _ => ?_) | refine E.bxO (fun _ => ?_) | refine E.al (fun _ => ?_) | refine E.sbO ?_ | refine E.dq ?_ | refine E.ct ?_ | refine E.cf ?_ | refine E.cs (fun hh => ?_) (fun hh => ?_) | refine E.at_block_other rfl ?_)
      refine rd (α := Nat × { q : Value × Value // q.1.oneCell' = true ∧ q.2.oneCell' = true }) (k + 1, ⟨(_, _), ?_⟩) hlt (hK := KSub.box pk rfl (KSub.ownF pk e4.symm (KSub.ownF pk e5.symm ks)))
      exact ⟨by assumption, by assumption⟩
    · repeat' (first | refine E.st ?_ | refine E.q3 ?_ | refine E.q ?_ | refine E.qs ?_ | refine E.q2 ?_ | refine E.q4 ?_ | refine E.tr ?_ | refine E.ap (fun _ _ => ?_) | refine E.b1 (fun _ _ => ?_) | refine E.b0 (fun _ _ => ?_) | refine E.bsn (fun _ _ => ?_) | refine E.mk (fun _ _ => ?_) | refine E.bxO (fun _ => ?_) | refine E.al (fun _ => ?_) | refine E.sbO ?_ | refine E.dq ?_ | refine E.ct ?_ | refine E.cf ?_ | refine E.cs (fun hh => ?_) (fun hh => ?_) | refine E.at_block_other rfl ?_)
      have hke : k = ps.length := by omega
      subst hke
      exact r1 (α := V3) ⟨(v1.1, u4, u5), ⟨v1.2, o4, o5⟩⟩ (hK := KSub.ownF pk rfl (KSub.ownF pk (by rw [List.take_length]) (KSub.ownF pk (by rw [List.take_length]) (KSub.nil _))))
  · have hw' : wn ps = [] := if_neg hok
    rw [hw']
    refine enter (args := _) Try.func18 rfl Try.ntmps18 (by simp) ?_
    refine E.nl 69 (α := Pe) ?_
    refine E.nl 98 (α := PlR) ?_
    refine E.nl 3 (α := Int) ?_
    repeat' (first | refine E.st ?_ | refine E.cl (h := fun _ w _ => c_peopleOk w) (k := ?_)  | refine E.q3 ?_ | refine E.q ?_ | refine E.qs ?_ | refine E.q2 ?_ | refine E.q4 ?_ | refine E.tr ?_ | refine E.ap (fun _ _ => ?_) | refine E.b1 (fun _ _ => ?_) | refine E.b0 (fun _ _ => ?_) | refine E.bsn (fun _ _ => ?_) | refine E.mk (fun _ _ => ?_) | refine E.bxO (fun _ => ?_) | refine E.al (fun _ => ?_) | refine E.sbO ?_ | refine E.dq ?_ | refine E.ct ?_ | refine E.cf ?_ | refine E.cs (fun hh => ?_) (fun hh => ?_) | refine E.at_block_other rfl ?_)
    exact r1 (α := V3) ⟨(_, _, _), ⟨rfl, rfl, rfl⟩⟩
theorem c_markPg0 {k : Int} (w : World) : Calls Try.prog 123 #[.slice none 0 0, .int .i64 k] w (Ret (fun _ : Unit => .int .i64 k) (fun _ => []) w) := by
  have hn : RdF w (.slice none 0 0) ([] : List Pg) := RdF.nil _
  have hl : ((([] : List Pg).length : Nat) : Int) = 0 := rfl
  refine enter (args := _) Try.func123 rfl Try.ntmps123 (by simp) ?_
  repeat' (first | refine E.st ?_ | refine E.q3 ?_ | refine E.q ?_ | refine E.qs ?_ | refine E.q2 ?_ | refine E.q4 ?_ | refine E.tr ?_ | refine E.ap (fun _ _ => ?_) | refine E.b1 (fun _ _ => ?_) | refine E.b0 (fun _ _ => ?_) | refine E.bsn (fun _ _ => ?_) | refine E.mk (fun _ _ => ?_) | refine E.bxO (fun _ => ?_) | refine E.al (fun _ => ?_) | refine E.sbO ?_ | refine E.dq ?_ | refine E.ct ?_ | refine E.cf ?_ | refine E.cs (fun hh => ?_) (fun hh => ?_) | refine E.at_block_other rfl ?_)
  refine lq (fun i : Nat => True) (fun i => [(5, .pl (.int .i64 0))]) (fun _ => []) (fun i => 0) 0 trivial (fun i _ => ?_)
  repeat' (first | refine E.st ?_ | refine E.q3 ?_ | refine E.q ?_ | refine E.qs ?_ | refine E.q2 ?_ | refine E.q4 ?_ | refine E.tr ?_ | refine E.ap (fun _ _ => ?_) | refine E.b1 (fun _ _ => ?_) | refine E.b0 (fun _ _ => ?_) | refine E.bsn (fun _ _ => ?_) | refine E.mk (fun _ _ => ?_) | refine E.bxO (fun _ => ?_) | refine E.al (fun _ => ?_) | refine E.sbO ?_ | refine E.dq ?_ | refine E.ct ?_ | refine E.cf ?_ | refine E.cs (fun hh => ?_) (fun hh => ?_) | refine E.at_block_other rfl ?_)
  exact ri
theorem c_heldPg0 {k : Int} (w : World) : Calls Try.prog 126 #[.slice none 0 0, .int .i64 k] w (Ret (fun _ : Unit => .int .i64 k) (fun _ => []) w) := by
  have hn : RdF w (.slice none 0 0) ([] : List Pg) := RdF.nil _
  have hl : ((([] : List Pg).length : Nat) : Int) = 0 := rfl
  refine enter (args := _) Try.func126 rfl Try.ntmps126 (by simp) ?_
  repeat' (first | refine E.st ?_ | refine E.q3 ?_ | refine E.q ?_ | refine E.qs ?_ | refine E.q2 ?_ | refine E.q4 ?_ | refine E.tr ?_ | refine E.ap (fun _ _ => ?_) | refine E.b1 (fun _ _ => ?_) | refine E.b0 (fun _ _ => ?_) | refine E.bsn (fun _ _ => ?_) | refine E.mk (fun _ _ => ?_) | refine E.bxO (fun _ => ?_) | refine E.al (fun _ => ?_) | refine E.sbO ?_ | refine E.dq ?_ | refine E.ct ?_ | refine E.cf ?_ | refine E.cs (fun hh => ?_) (fun hh => ?_) | refine E.at_block_other rfl ?_)
  refine lq (fun i : Nat => True) (fun i => [(5, .pl (.int .i64 0))]) (fun _ => []) (fun i => 0) 0 trivial (fun i _ => ?_)
  repeat' (first | refine E.st ?_ | refine E.q3 ?_ | refine E.q ?_ | refine E.qs ?_ | refine E.q2 ?_ | refine E.q4 ?_ | refine E.tr ?_ | refine E.ap (fun _ _ => ?_) | refine E.b1 (fun _ _ => ?_) | refine E.b0 (fun _ _ => ?_) | refine E.bsn (fun _ _ => ?_) | refine E.mk (fun _ _ => ?_) | refine E.bxO (fun _ => ?_) | refine E.al (fun _ => ?_) | refine E.sbO ?_ | refine E.dq ?_ | refine E.ct ?_ | refine E.cf ?_ | refine E.cs (fun hh => ?_) (fun hh => ?_) | refine E.at_block_other rfl ?_)
  exact ri
theorem c_markPl0 {w0 : World} {K : List Ck} {v : Value} {xs : List PlR} {k : Int} (w : World) (hw : KOk w0 (ownF 98 v xs :: K) w) (hx0 : ∀ x ∈ xs, x.s = ⟨none, 0, 0⟩) (hk : 0 ≤ k ∧ k ≤ 1000000000000 := by omega) (hn : xs.length ≤ 10000000 := by omega) :
    Calls Try.prog 67 #[v, .int .i64 k] w (RetK (fun _ : Unit => .int .i64 (k + ((xs.length * 1 : Nat) : Int))) (fun _ => [ownF 98 v (marks PlR xs.length k)] ++ K) w0) := by
  refine enterK (args := _) hw Try.func67 rfl Try.ntmps67 (by simp) ?_
  repeat' (first | refine E.st ?_ | refine E.q3 ?_ | refine E.q ?_ | refine E.qs ?_ | refine E.q2 ?_ | refine E.q4 ?_ | refine E.tr ?_ | refine E.ap (fun _ _ => ?_) | refine E.b1 (fun _ _ => ?_) | refine E.b0 (fun _ _ => ?_) | refine E.bsn (fun _ _ => ?_) | refine E.mk (fun _ _ => ?_) | refine E.bxO (fun _ => ?_) | refine E.al (fun _ => ?_) | refine E.sbO ?_ | refine E.dq ?_ | refine E.ct ?_ | refine E.cf ?_ | refine E.cs (fun hh => ?_) (fun hh => ?_) | refine E.at_block_other rfl ?_)
  refine lp (fun i : Nat => i ≤ xs.length) (fun i => [(0, .pl v), (1, .pl (.int .i64 (k + ((i * 1 : Nat) : Int)))), (5, .pl (.int .i64 (i : Int)))]) (fun i => ownF 98 v (marks PlR i k ++ xs.drop i) :: K) (fun i => xs.length - i) 0 (Nat.zero_le _) (fun i hi => ?_) fs (KSub.ownF (Pick.here _ _) (by simp [marks]) (KSub.refl _))
  have hl : (marks PlR i k ++ xs.drop i).length = xs.length := by simp [marks_length]; omega
  rcases Nat.lt_or_ge i xs.length with hlt | hge
  · obtain ⟨x, hx⟩ := get_lt hlt
    have hx1 := hx0 x (List.mem_of_getElem? hx)
    obtain ⟨xz, xs'⟩ := x
    subst hx1
    have hg := mark_get (k := k) hx
    have hs := mark_set (k := k) hx
    have hi1 : k + (((i + 1) * 1 : Nat) : Int) = k + ((i * 1 : Nat) : Int) + 1 := by omega
    simp only [Mark.el, Mark.n] at hs
    generalize hm : k + ((i * 1 : Nat) : Int) = m at hs hi1 ⊢
    have hm2 : 0 ≤ m ∧ m ≤ 1000200000000 := by omega
    generalize marks PlR i k ++ xs.drop i = zs at hs hg hl ⊢
    repeat' (first | refine E.st ?_ | refine E.cl (h := fun _ w _ => c_markPg0 w) (k := ?_) | (refine trn (fun R hR hl hg => ?_)) | refine E.q3 ?_ | refine E.q ?_ | refine E.qs ?_ | refine E.q2 ?_ | refine E.q4 ?_ | refine E.tr ?_ | refine E.ap (fun _ _ => ?_) | refine E.b1 (fun _ _ => ?_) | refine E.b0 (fun _ _ => ?_) | refine E.bsn (fun _ _ => ?_) | refine E.mk (fun _ _ => ?_) | refine E.bxO (fun _ => ?_) | refine E.al (fun _ => ?_) | refine E.sbO ?_ | refine E.dq ?_ | refine E.ct ?_ | refine E.cf ?_ | refine E.cs (fun hh => ?_) (fun hh => ?_) | refine E.at_block_other rfl ?_)
    refine rd (i + 1) (by omega) (hF := fs (FSub.cons rfl (FSub.int rfl (by omega) (FSub.int rfl (by omega) FSub.nil)))) (hK := KSub.ownF (Pick.here _ _) ?_ (KSub.refl _))
    first | exact hs | (rw [← hs]; done) | (rw [← hs]; subst_vars; simp only [List.set_set, Int.add_assoc]; done) | (rw [← hs]; subst_vars; rfl) | (trace_state; sorry)
  · repeat' (first | refine E.st ?_ | refine E.q ?_ | refine E.qs ?_ | refine E.q2 ?_ | refine E.tr ?_ | refine E.ap (fun _ _ => ?_) | refine E.b1 (fun _ _ => ?_) | refine E.b0 (fun _ _ => ?_) | refine E.bsn (fun _ _ => ?_) | refine E.mk (fun _ _ => ?_) | refine E.bx (fun _ => ?_) | refine E.al (fun _ => ?_) | refine E.sb ?_ | refine E.dq ?_ | refine E.ct ?_ | refine E.cf ?_ | refine E.cs (fun hh => ?_) (fun hh => ?_) | refine E.at_block_other rfl ?_)
    have : i = xs.length := by omega
    subst this
    exact r1K () (hK := KSub.ownF (Pick.here _ _) (by simp) (KSub.refl _))
theorem c_heldPl0 {v : Value} {n : Nat} {k : Int} (w : World) (hr : RdF w v (marks PlR n k) := by exact rdA) (hk : 0 ≤ k ∧ k ≤ 1000000000000 := by omega) (hn : n ≤ 10000000 := by omega) :
    Calls Try.prog 70 #[v, .int .i64 k] w (Ret (fun _ : Unit => .int .i64 (k + ((n * 1 : Nat) : Int))) (fun _ => []) w) := by
  have hl : (marks PlR n k).length = n := marks_length _ _
  refine enter (args := _) Try.func70 rfl Try.ntmps70 (by simp) ?_
  repeat' (first | refine E.st ?_ | refine E.q3 ?_ | refine E.q ?_ | refine E.qs ?_ | refine E.q2 ?_ | refine E.q4 ?_ | refine E.tr ?_ | refine E.ap (fun _ _ => ?_) | refine E.b1 (fun _ _ => ?_) | refine E.b0 (fun _ _ => ?_) | refine E.bsn (fun _ _ => ?_) | refine E.mk (fun _ _ => ?_) | refine E.bxO (fun _ => ?_) | refine E.al (fun _ => ?_) | refine E.sbO ?_ | refine E.dq ?_ | refine E.ct ?_ | refine E.cf ?_ | refine E.cs (fun hh => ?_) (fun hh => ?_) | refine E.at_block_other rfl ?_)
  refine lp (fun i : Nat => i ≤ n) (fun i => [(0, .pl v), (1, .pl (.int .i64 (k + ((i * 1 : Nat) : Int)))), (5, .pl (.int .i64 (i : Int)))]) (fun i => []) (fun i => n - i) 0 (Nat.zero_le _) (fun i hi => ?_)
  rcases Nat.lt_or_ge i n with hlt | hge
  · have hx := marks_get (α := PlR) (n := n) (k := k) hlt
    have hi1 : k + (((i + 1) * 1 : Nat) : Int) = k + ((i * 1 : Nat) : Int) + 1 := by omega
    simp only [Mark.el, Mark.n] at hx
    generalize hm : k + ((i * 1 : Nat) : Int) = m at hx hi1 ⊢
    have hm2 : 0 ≤ m ∧ m ≤ 1000200000000 := by omega
    repeat' (first | refine E.st ?_ | refine E.cl (h := fun _ w _ => c_heldPg0 w) (k := ?_)  | refine E.q3 ?_ | refine E.q ?_ | refine E.qs ?_ | refine E.q2 ?_ | refine E.q4 ?_ | refine E.tr ?_ | refine E.ap (fun _ _ => ?_) | refine E.b1 (fun _ _ => ?_) | refine E.b0 (fun _ _ => ?_) | refine E.bsn (fun _ _ => ?_) | refine E.mk (fun _ _ => ?_) | refine E.bxO (fun _ => ?_) | refine E.al (fun _ => ?_) | refine E.sbO ?_ | refine E.dq ?_ | refine E.ct ?_ | refine E.cf ?_ | refine E.cs (fun hh => ?_) (fun hh => ?_) | refine E.at_block_other rfl ?_)
    all_goals first
      | exact rd (i + 1) (by omega) (hF := fs (FSub.cons rfl (FSub.int rfl (by omega) (FSub.int rfl (by omega) FSub.nil))))
      | exact absurd rfl (by assumption)
      | (exfalso; (try dsimp only at *); omega)
      | (rename_i hh; refine absurd ?_ hh; (try dsimp only); omega)
      | (trace_state; sorry)
  · repeat' (first | refine E.st ?_ | refine E.q ?_ | refine E.qs ?_ | refine E.q2 ?_ | refine E.tr ?_ | refine E.ap (fun _ _ => ?_) | refine E.b1 (fun _ _ => ?_) | refine E.b0 (fun _ _ => ?_) | refine E.bsn (fun _ _ => ?_) | refine E.mk (fun _ _ => ?_) | refine E.bx (fun _ => ?_) | refine E.al (fun _ => ?_) | refine E.sb ?_ | refine E.dq ?_ | refine E.ct ?_ | refine E.cf ?_ | refine E.cs (fun hh => ?_) (fun hh => ?_) | refine E.at_block_other rfl ?_)
    have : i = n := by omega
    subst this
    exact ri
theorem c_markG0 {k : Int} (w : World) (hk : 0 ≤ k ∧ k ≤ 1000000000 := by omega) : Calls Try.prog 39 #[.agg #[.slice none 0 0, .slice none 0 0], .int .i64 k] w (Ret (fun _ : Unit => .int .i64 k) (fun _ => []) w) := by
  refine enter (args := _) Try.func39 rfl Try.ntmps39 (by simp) ?_
  refine E.nl 58 (α := Nd) ?_
  refine E.nl 60 (α := Eg) ?_
  repeat' (first | refine E.st ?_ | refine E.ckp (h := fun K'' w hw => c_markNodeS (xs := []) w hw (by omega) (by exact Nat.zero_le _)) (k := fun _ => ?_) | refine E.ckp (h := fun K'' w hw => c_markEdgeS (xs := []) w hw (by simp only [List.length_nil]; omega) (by exact Nat.zero_le _)) (k := fun _ => ?_) | refine E.q3 ?_ | refine E.q ?_ | refine E.qs ?_ | refine E.q2 ?_ | refine E.q4 ?_ | refine E.tr ?_ | refine E.ap (fun _ _ => ?_) | refine E.b1 (fun _ _ => ?_) | refine E.b0 (fun _ _ => ?_) | refine E.bsn (fun _ _ => ?_) | refine E.mk (fun _ _ => ?_) | refine E.bxO (fun _ => ?_) | refine E.al (fun _ => ?_) | refine E.sbO ?_ | refine E.dq ?_ | refine E.ct ?_ | refine E.cf ?_ | refine E.cs (fun hh => ?_) (fun hh => ?_) | refine E.at_block_other rfl ?_)
  refine ri ?_
  simp
theorem c_heldG0 {k : Int} (w : World) (hk : 0 ≤ k ∧ k ≤ 1000000000 := by omega) : Calls Try.prog 69 #[.agg #[.slice none 0 0, .slice none 0 0], .int .i64 k] w (Ret (fun _ : Unit => .int .i64 k) (fun _ => []) w) := by
  refine enter (args := _) Try.func69 rfl Try.ntmps69 (by simp) ?_
  repeat' (first | refine E.st ?_ | refine E.cl (h := fun _ w _ => c_heldNodeS w (n := 0) (hr := RdF.nil _)) (k := ?_) | refine E.cl (h := fun _ w _ => c_heldEdgeS w (n := 0) (hr := RdF.nil _)) (k := ?_)  | refine E.q3 ?_ | refine E.q ?_ | refine E.qs ?_ | refine E.q2 ?_ | refine E.q4 ?_ | refine E.tr ?_ | refine E.ap (fun _ _ => ?_) | refine E.b1 (fun _ _ => ?_) | refine E.b0 (fun _ _ => ?_) | refine E.bsn (fun _ _ => ?_) | refine E.mk (fun _ _ => ?_) | refine E.bxO (fun _ => ?_) | refine E.al (fun _ => ?_) | refine E.sbO ?_ | refine E.dq ?_ | refine E.ct ?_ | refine E.cf ?_ | refine E.cs (fun hh => ?_) (fun hh => ?_) | refine E.at_block_other rfl ?_)
  refine ri ?_
  simp
theorem c_markWn {w0 : World} {K : List Ck} {v1 v4 v5 : Value} {ps : List Pe} {xs : List PlR} {ls : List Int} {k : Int} (w : World) (hw : KOk w0 (K ++ [ownF 69 v1 ps, ownF 98 v4 xs, ownF 3 v5 ls]) w) (hx0 : ∀ x ∈ xs, x.s = ⟨none, 0, 0⟩) (hk : 0 ≤ k ∧ k ≤ 1000 := by omega) (h1 : ps.length ≤ 1000 := by omega) (h2 : xs.length ≤ 1000 := by omega) (h3 : ls.length ≤ 1000 := by omega) :
    Calls Try.prog 21 #[.agg #[v1, .slice none 0 0, .slice none 0 0, v4, v5], .int .i64 k] w (RetK (fun _ : Unit => .int .i64 (k + ((ps.length * 3 : Nat) : Int) + ((xs.length * 1 : Nat) : Int) + ((ls.length * 1 : Nat) : Int))) (fun _ => ownF 69 v1 (marks E.Pe ps.length k) :: ownF 98 v4 (marks E.PlR xs.length (k + ((ps.length * 3 : Nat) : Int))) :: ownF 3 v5 (marks Int ls.length (k + ((ps.length * 3 : Nat) : Int) + ((xs.length * 1 : Nat) : Int))) :: K) w0) := by
  have o1 := (RdF.ofK hw : RdF w v1 ps).one
  have o4 := (RdF.ofK hw : RdF w v4 xs).one
  have o5 := (RdF.ofK hw : RdF w v5 ls).one
  refine enterK (args := _) hw Try.func21 rfl Try.ntmps21 (by simp) ?_
  repeat' (first | refine E.st ?_ | refine E.cl (h := fun _ w _ => c_markG0 w) (k := ?_) | refine E.ckp (h := fun K'' w hw => c_markPersonS (xs := ps) w hw) (k := fun _ => ?_) | refine E.ckp (h := fun K'' w hw => c_markPl0 (xs := xs) w hw hx0) (k := fun _ => ?_) | refine E.ckp (h := fun K'' w hw => c_markIntS (xs := ls) w hw) (k := fun _ => ?_) | refine E.q3 ?_ | refine E.q ?_ | refine E.qs ?_ | refine E.q2 ?_ | refine E.q4 ?_ | refine E.tr ?_ | refine E.ap (fun _ _ => ?_) | refine E.b1 (fun _ _ => ?_) | refine E.b0 (fun _ _ => ?_) | refine E.bsn (fun _ _ => ?_) | refine E.mk (fun _ _ => ?_) | refine E.bxO (fun _ => ?_) | refine E.al (fun _ => ?_) | refine E.sbO ?_ | refine E.dq ?_ | refine E.ct ?_ | refine E.cf ?_ | refine E.cs (fun hh => ?_) (fun hh => ?_) | refine E.at_block_other rfl ?_)
  exact r1K () (hK := KSub.ownF pk rfl (KSub.ownF pk rfl (KSub.ownF pk rfl (by simp only [List.append_nil]; exact ks))))
theorem c_heldWn {v1 v4 v5 : Value} {n1 n4 n5 : Nat} {k : Int} (w : World) (h1 : RdF w v1 (marks E.Pe n1 k)) (h4 : RdF w v4 (marks E.PlR n4 (k + ((n1 * 3 : Nat) : Int)))) (h5 : RdF w v5 (marks Int n5 (k + ((n1 * 3 : Nat) : Int) + ((n4 * 1 : Nat) : Int)))) (hk : 0 ≤ k ∧ k ≤ 1000 := by omega) (hn1 : n1 ≤ 1000 := by omega) (hn4 : n4 ≤ 1000 := by omega) (hn5 : n5 ≤ 1000 := by omega) :
    Calls Try.prog 22 #[.agg #[v1, .slice none 0 0, .slice none 0 0, v4, v5], .int .i64 k] w (Ret (fun _ : Unit => .int .i64 (k + ((n1 * 3 : Nat) : Int) + ((n4 * 1 : Nat) : Int) + ((n5 * 1 : Nat) : Int))) (fun _ => []) w) := by
  have o1 := h1.one
  have o4 := h4.one
  have o5 := h5.one
  refine enter (args := _) Try.func22 rfl Try.ntmps22 (by simp) ?_
  repeat' (first | refine E.st ?_ | refine E.cl (h := fun _ w _ => c_heldPersonS (n := n1) w) (k := ?_) | refine E.cl (h := fun _ w _ => c_heldG0 w) (k := ?_) | refine E.cl (h := fun _ w _ => c_heldPl0 (n := n4) w) (k := ?_) | refine E.cl (h := fun _ w _ => c_heldIntS (n := n5) w) (k := ?_)  | refine E.q3 ?_ | refine E.q ?_ | refine E.qs ?_ | refine E.q2 ?_ | refine E.q4 ?_ | refine E.tr ?_ | refine E.ap (fun _ _ => ?_) | refine E.b1 (fun _ _ => ?_) | refine E.b0 (fun _ _ => ?_) | refine E.bsn (fun _ _ => ?_) | refine E.mk (fun _ _ => ?_) | refine E.bxO (fun _ => ?_) | refine E.al (fun _ => ?_) | refine E.sbO ?_ | refine E.dq ?_ | refine E.ct ?_ | refine E.cf ?_ | refine E.cs (fun hh => ?_) (fun hh => ?_) | refine E.at_block_other rfl ?_)
  exact ri
theorem RdW.wn {w0 w : World} {K : List Ck} {v1 v4 v5 : Value} {q : List Pe} (hw : KOk w0 K w) (h1 : ownF 69 v1 q ∈ K := by exact mm) (h4 : ownF 98 v4 (wnq q) ∈ K := by exact mm) (h5 : ownF 3 v5 (wnl q) ∈ K := by exact mm) : RdW w v1 (.slice none 0 0) (.slice none 0 0) v4 v5 (wnw q) := by
  refine ⟨RdF.ofK hw h1, RdF.nil _, RdF.nil _, ⟨wnq q, RdF.ofK hw h4, ⟨by simp [wnq, wnw], ?_⟩, ?_⟩, RdF.ofK hw h5⟩
  · intro i x p hx hp
    simp only [wnq, wnw, List.getElem?_map] at hx hp
    cases hq : q[i]? with
    | none => simp [hq] at hx
    | some y =>
      simp only [hq, Option.map_some, Option.some.injEq] at hx hp
      subst hx; subst hp; rfl
  · intro i x p hx hp
    simp only [wnq, wnw, List.getElem?_map] at hx hp
    cases hq : q[i]? with
    | none => simp [hq] at hx
    | some y =>
      simp only [hq, Option.map_some, Option.some.injEq] at hx hp
      subst hx; subst hp; exact RdF.nil _
theorem same_Pe {v u : Value} {xs : List Pe} (w : World) (hr : RdF w v xs := by exact rdA) (hq : RdF w u xs := by exact rdA) : Calls Try.prog 19 #[v, u] w (Ret (fun _ : Unit => .bool true) (fun _ => []) w) := by
  have := c_eqPersonS w hr hq
  rwa [decide_eq_true rfl] at this
end E
end Go.Proofs.Ytmopokamcbcggaa
