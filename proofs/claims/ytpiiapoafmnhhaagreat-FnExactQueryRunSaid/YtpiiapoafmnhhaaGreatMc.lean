/- Stores: same or not, what is seen; the node of a number. -/
import Derived.Test.YtpiiapoafmnhhaaGreatM12
namespace Go.Proofs.YtpiiapoafmnhhaaGreat
namespace E
open Go Go.RowKit
set_option linter.unusedSimpArgs false
set_option linter.unusedVariables false
set_option maxHeartbeats 1000000
set_option maxRecDepth 10000
attribute [local irreducible] HC HL HQ HX HO At Y YV Opd Opds KnX Sl Ld Src GV RV Calls Code.wp eptr adr RdF ownF OneX HG LdC
theorem c_s_StoreSame {v u : Value} {xs ys : List Sg} (w : World) (hr : RdF w v xs := by exact rdA) (hq : RdF w u ys := by exact rdA) : Calls Tryz.prog 123 #[v, u] w (Ret (fun _ : Unit => .bool (decide (xs = ys))) (fun _ => []) w) := by
  have m1 := hr.le
  have m2 := hq.le
  simp only [maxLen] at m1 m2
  refine enter (args := _) Tryz.func123 rfl Tryz.ntmps123 (by simp) ?_
  repeat' (first | refine E.st ?_ | refine E.q3 ?_ | refine E.q ?_ | refine E.qs ?_ | refine E.q2 ?_ | refine E.q4 ?_ | refine E.tr ?_ | refine E.ap (fun _ _ => ?_) | refine E.b1 (fun _ _ => ?_) | refine E.b0 (fun _ _ => ?_) | refine E.bsn (fun _ _ => ?_) | refine E.mk (fun _ _ => ?_) | refine E.bxO (fun _ => ?_) | refine E.al (fun _ => ?_) | refine E.sbO ?_ | refine E.dq ?_ | refine E.ct ?_ | refine E.cf ?_ | refine E.cs (fun hh => ?_) (fun hh => ?_) | refine E.at_block_other rfl ?_)
  · exact rb (eq_len (by omega))
  refine lq (fun k : Nat => k ≤ xs.length ∧ xs.take k = ys.take k) (fun k => [(5, .pl (.int .i64 (k : Int)))]) (fun k => []) (fun k => xs.length - k) 0 ⟨Nat.zero_le _, rfl⟩ (fun k hk0 => ?_)
  obtain ⟨hk1, hk2⟩ := hk0
  rcases Nat.lt_or_ge k xs.length with hlt | hge
  · obtain ⟨⟨xl, xb⟩, hx⟩ := get_lt hlt
    obtain ⟨⟨yl, yb⟩, hy⟩ := get_lt (xs := ys) (k := k) (by omega)
    repeat' (first | refine E.st ?_ | refine E.q6 ?_ | refine E.q3 ?_ | refine E.q ?_ | refine E.qs ?_ | refine E.q2 ?_ | refine E.q4 ?_ | refine E.tr ?_ | refine E.ap (fun _ _ => ?_) | refine E.b1 (fun _ _ => ?_) | refine E.b0 (fun _ _ => ?_) | refine E.bsn (fun _ _ => ?_) | refine E.mk (fun _ _ => ?_) | refine E.bxO (fun _ => ?_) | refine E.al (fun _ => ?_) | refine E.sbO ?_ | refine E.dq ?_ | refine E.ct ?_ | refine E.cf ?_ | refine E.cs (fun hh => ?_) (fun hh => ?_) | refine E.at_block_other rfl ?_)
    · exact rb (eq_no hx hy (by rintro e; exact hh e))
    · exact rd (k + 1) ⟨by omega, eq_st hk2 hx hy (by first | exact hh | exact Decidable.not_not.1 hh)⟩
  · repeat' (first | refine E.st ?_ | refine E.q3 ?_ | refine E.q ?_ | refine E.qs ?_ | refine E.q2 ?_ | refine E.q4 ?_ | refine E.tr ?_ | refine E.ap (fun _ _ => ?_) | refine E.b1 (fun _ _ => ?_) | refine E.b0 (fun _ _ => ?_) | refine E.bsn (fun _ _ => ?_) | refine E.mk (fun _ _ => ?_) | refine E.bxO (fun _ => ?_) | refine E.al (fun _ => ?_) | refine E.sbO ?_ | refine E.dq ?_ | refine E.ct ?_ | refine E.cf ?_ | refine E.cs (fun hh => ?_) (fun hh => ?_) | refine E.at_block_other rfl ?_)
    exact rb (eq_all hk2 (by omega) (by omega))
theorem c_equalSg {v u : Value} {xs ys : List Sg} (w : World) (hr : RdF w v xs := by exact rdA) (hq : RdF w u ys := by exact rdA) : Calls Tryz.prog 155 #[v, u] w (Ret (fun _ : Unit => .bool (decide (xs = ys))) (fun _ => []) w) := by
  have m1 := hr.le
  have m2 := hq.le
  simp only [maxLen] at m1 m2
  refine enter (args := _) Tryz.func155 rfl Tryz.ntmps155 (by simp) ?_
  repeat' (first | refine E.st ?_ | refine E.q3 ?_ | refine E.q ?_ | refine E.qs ?_ | refine E.q2 ?_ | refine E.q4 ?_ | refine E.tr ?_ | refine E.ap (fun _ _ => ?_) | refine E.b1 (fun _ _ => ?_) | refine E.b0 (fun _ _ => ?_) | refine E.bsn (fun _ _ => ?_) | refine E.mk (fun _ _ => ?_) | refine E.bxO (fun _ => ?_) | refine E.al (fun _ => ?_) | refine E.sbO ?_ | refine E.dq ?_ | refine E.ct ?_ | refine E.cf ?_ | refine E.cs (fun hh => ?_) (fun hh => ?_) | refine E.at_block_other rfl ?_)
  · exact rb (eq_len (by omega))
  refine lq (fun k : Nat => k ≤ xs.length ∧ xs.take k = ys.take k) (fun k => [(13, .pl (.int .i64 (k : Int)))]) (fun k => []) (fun k => xs.length - k) 0 ⟨Nat.zero_le _, rfl⟩ (fun k hk0 => ?_)
  obtain ⟨hk1, hk2⟩ := hk0
  rcases Nat.lt_or_ge k xs.length with hlt | hge
  · obtain ⟨⟨xl, xb⟩, hx⟩ := get_lt hlt
    obtain ⟨⟨yl, yb⟩, hy⟩ := get_lt (xs := ys) (k := k) (by omega)
    repeat' (first | refine E.st ?_ | refine E.q6 ?_ | refine E.q3 ?_ | refine E.q ?_ | refine E.qs ?_ | refine E.q2 ?_ | refine E.q4 ?_ | refine E.tr ?_ | refine E.ap (fun _ _ => ?_) | refine E.b1 (fun _ _ => ?_) | refine E.b0 (fun _ _ => ?_) | refine E.bsn (fun _ _ => ?_) | refine E.mk (fun _ _ => ?_) | refine E.bxO (fun _ => ?_) | refine E.al (fun _ => ?_) | refine E.sbO ?_ | refine E.dq ?_ | refine E.ct ?_ | refine E.cf ?_ | refine E.cs (fun hh => ?_) (fun hh => ?_) | refine E.at_block_other rfl ?_)
    · exact rb (eq_no hx hy (by rintro e; exact hh e))
    · exact rd (k + 1) ⟨by omega, eq_st hk2 hx hy (by first | exact hh | exact Decidable.not_not.1 hh)⟩
  · repeat' (first | refine E.st ?_ | refine E.q3 ?_ | refine E.q ?_ | refine E.qs ?_ | refine E.q2 ?_ | refine E.q4 ?_ | refine E.tr ?_ | refine E.ap (fun _ _ => ?_) | refine E.b1 (fun _ _ => ?_) | refine E.b0 (fun _ _ => ?_) | refine E.bsn (fun _ _ => ?_) | refine E.mk (fun _ _ => ?_) | refine E.bxO (fun _ => ?_) | refine E.al (fun _ => ?_) | refine E.sbO ?_ | refine E.dq ?_ | refine E.ct ?_ | refine E.cf ?_ | refine E.cs (fun hh => ?_) (fun hh => ?_) | refine E.at_block_other rfl ?_)
    exact rb (eq_all hk2 (by omega) (by omega))
theorem c_i_StoreSame {v u : Value} {xs ys : List Sg} (w : World) (hr : RdF w v xs := by exact rdA) (hq : RdF w u ys := by exact rdA) : Calls Tryz.prog 98 #[v, u] w (Ret (fun _ : Unit => .bool (decide (xs = ys))) (fun _ => []) w) := by
  have o1 := hr.one
  have o2 := hq.one
  refine enter (args := _) Tryz.func98 rfl Tryz.ntmps98 (by simp) ?_
  repeat' (first | refine E.st ?_ | refine E.cl (h := fun _ w _ => c_equalSg w) (k := ?_)  | refine E.q3 ?_ | refine E.q ?_ | refine E.qs ?_ | refine E.q2 ?_ | refine E.q4 ?_ | refine E.tr ?_ | refine E.ap (fun _ _ => ?_) | refine E.b1 (fun _ _ => ?_) | refine E.b0 (fun _ _ => ?_) | refine E.bsn (fun _ _ => ?_) | refine E.mk (fun _ _ => ?_) | refine E.bxO (fun _ => ?_) | refine E.al (fun _ => ?_) | refine E.sbO ?_ | refine E.dq ?_ | refine E.ct ?_ | refine E.cf ?_ | refine E.cs (fun hh => ?_) (fun hh => ?_) | refine E.at_block_other rfl ?_)
  exact rb
theorem viewS_step {xs : List Sg} {k : Nat} {x : Sg} {c : Int} (h : xs[k]? = some x) : viewS (xs.take (k + 1)) c = viewS (xs.take k) c ++ if lun x.l c = true then [x] else [] := by
  unfold viewS
  rw [List.take_add_one, h, List.filter_append]
  cases hl : lun x.l c <;> simp [hl]
theorem viewS_len (xs : List Sg) (c : Int) (k : Nat) : (viewS (xs.take k) c).length ≤ xs.length := Nat.le_trans (List.length_filter_le _ _) (by rw [List.length_take]; omega)
theorem c_s_StoreView {v : Value} {xs : List Sg} {c : Int} (w : World) (hr : RdF w v xs := by exact rdA) (hl : xs.length ≤ 2000000 := by omega) : Calls Tryz.prog 59 #[v, .int .i64 c] w (Ret (fun s : Sv => .slice s.a s.n s.c) (fun s => [ownF 65 (.slice s.a s.n s.c) (viewS xs c)]) w) := by
  refine calls_sv ?_
  have o1 := hr.one
  refine enter (args := _) Tryz.func59 rfl Tryz.ntmps59 (by simp) ?_
  repeat' (first | refine E.st ?_ | refine E.b0 (α := Sg) (fun v0 h0 => ?_) | refine E.q3 ?_ | refine E.q ?_ | refine E.qs ?_ | refine E.q2 ?_ | refine E.q4 ?_ | refine E.tr ?_ | refine E.ap (fun _ _ => ?_) | refine E.b1 (fun _ _ => ?_) | refine E.b0 (fun _ _ => ?_) | refine E.bsn (fun _ _ => ?_) | refine E.mk (fun _ _ => ?_) | refine E.bxO (fun _ => ?_) | refine E.al (fun _ => ?_) | refine E.sbO ?_ | refine E.dq ?_ | refine E.ct ?_ | refine E.cf ?_ | refine E.cs (fun hh => ?_) (fun hh => ?_) | refine E.at_block_other rfl ?_)
  refine lq (fun p : Nat × V1 => p.1 ≤ xs.length) (fun p => [(6, .pl (.int .i64 (p.1 : Int))), (5, .pl p.2.1)]) (fun p => [ownF 65 p.2.1 (viewS (xs.take p.1) c)]) (fun p => xs.length - p.1) (0, ⟨v0, h0⟩) (Nat.zero_le _) (fun p hp => ?_)
  obtain ⟨k, ⟨v5, h5⟩⟩ := p
  dsimp only at hp h5 ⊢
  have hvl := viewS_len xs c k
  rcases Nat.lt_or_ge k xs.length with hlt | hge
  · obtain ⟨⟨xl, xb⟩, hx⟩ := get_lt hlt
    have hst := viewS_step (c := c) hx
    cases hlu : lun xl c with
    | true =>
      have hst' : viewS (xs.take (k + 1)) c = viewS (xs.take k) c ++ [⟨xl, xb⟩] := by rw [hst, if_pos hlu]
      have hcl : ∀ w, Calls Tryz.prog 121 #[.int .i64 xl, .int .i64 c] w (Ret (fun _ : Unit => .bool true) (fun _ => []) w) := fun w => by rw [← hlu]; exact c_s_LabelUnder w
      repeat' (first | refine E.st ?_ | refine E.cl (h := fun _ w _ => hcl w) (k := ?_) | refine E.q3 ?_ | refine E.q ?_ | refine E.qs ?_ | refine E.q2 ?_ | refine E.q4 ?_ | refine E.tr ?_ | refine E.ap (fun _ _ => ?_) | refine E.b1 (fun _ _ => ?_) | refine E.b0 (fun _ _ => ?_) | refine E.bsn (fun _ _ => ?_) | refine E.mk (fun _ _ => ?_) | refine E.bxO (fun _ => ?_) | refine E.al (fun _ => ?_) | refine E.sbO ?_ | refine E.dq ?_ | refine E.ct ?_ | refine E.cf ?_ | refine E.cs (fun hh => ?_) (fun hh => ?_) | refine E.at_block_other rfl ?_)
      refine rd (α := Nat × V1) (k + 1, ⟨_, ?_⟩) hlt (hK := KSub.ownF pk hst'.symm ks)
      assumption
    | false =>
      have hst' : viewS (xs.take (k + 1)) c = viewS (xs.take k) c := by rw [hst, if_neg (by dsimp only; rw [hlu]; simp), List.append_nil]
      have hcl : ∀ w, Calls Tryz.prog 121 #[.int .i64 xl, .int .i64 c] w (Ret (fun _ : Unit => .bool false) (fun _ => []) w) := fun w => by rw [← hlu]; exact c_s_LabelUnder w
      repeat' (first | refine E.st ?_ | refine E.cl (h := fun _ w _ => hcl w) (k := ?_) | refine E.q3 ?_ | refine E.q ?_ | refine E.qs ?_ | refine E.q2 ?_ | refine E.q4 ?_ | refine E.tr ?_ | refine E.ap (fun _ _ => ?_) | refine E.b1 (fun _ _ => ?_) | refine E.b0 (fun _ _ => ?_) | refine E.bsn (fun _ _ => ?_) | refine E.mk (fun _ _ => ?_) | refine E.bxO (fun _ => ?_) | refine E.al (fun _ => ?_) | refine E.sbO ?_ | refine E.dq ?_ | refine E.ct ?_ | refine E.cf ?_ | refine E.cs (fun hh => ?_) (fun hh => ?_) | refine E.at_block_other rfl ?_)
      exact rd (α := Nat × V1) (k + 1, ⟨v5, h5⟩) hlt (hK := KSub.ownF pk hst'.symm ks)
  · rw [List.take_of_length_le hge]
    repeat' (first | refine E.st ?_ | refine E.q3 ?_ | refine E.q ?_ | refine E.qs ?_ | refine E.q2 ?_ | refine E.q4 ?_ | refine E.tr ?_ | refine E.ap (fun _ _ => ?_) | refine E.b1 (fun _ _ => ?_) | refine E.b0 (fun _ _ => ?_) | refine E.bsn (fun _ _ => ?_) | refine E.mk (fun _ _ => ?_) | refine E.bxO (fun _ => ?_) | refine E.al (fun _ => ?_) | refine E.sbO ?_ | refine E.dq ?_ | refine E.ct ?_ | refine E.cf ?_ | refine E.cs (fun hh => ?_) (fun hh => ?_) | refine E.at_block_other rfl ?_)
    exact r1 _
theorem c_i_StoreView {v : Value} {xs : List Sg} {c : Int} (w : World) (hr : RdF w v xs := by exact rdA) (hl : xs.length ≤ 2000000 := by omega) : Calls Tryz.prog 36 #[v, .int .i64 c] w (Ret (fun s : Sv => .slice s.a s.n s.c) (fun s => [ownF 65 (.slice s.a s.n s.c) (viewS xs c)]) w) := by
  refine calls_sv ?_
  have o1 := hr.one
  refine enter (args := _) Tryz.func36 rfl Tryz.ntmps36 (by simp) ?_
  refine E.nl 65 (α := Sg) ?_
  repeat' (first | refine E.st ?_ | refine E.q3 ?_ | refine E.q ?_ | refine E.qs ?_ | refine E.q2 ?_ | refine E.q4 ?_ | refine E.tr ?_ | refine E.ap (fun _ _ => ?_) | refine E.b1 (fun _ _ => ?_) | refine E.b0 (fun _ _ => ?_) | refine E.bsn (fun _ _ => ?_) | refine E.mk (fun _ _ => ?_) | refine E.bxO (fun _ => ?_) | refine E.al (fun _ => ?_) | refine E.sbO ?_ | refine E.dq ?_ | refine E.ct ?_ | refine E.cf ?_ | refine E.cs (fun hh => ?_) (fun hh => ?_) | refine E.at_block_other rfl ?_)
  refine lq (fun p : Nat × V1 => p.1 ≤ xs.length) (fun p => [(10, .pl (.int .i64 (p.1 : Int))), (5, .pl p.2.1)]) (fun p => [ownF 65 p.2.1 (viewS (xs.take p.1) c)]) (fun p => xs.length - p.1) (0, ⟨.slice none 0 0, rfl⟩) (Nat.zero_le _) (fun p hp => ?_)
  obtain ⟨k, ⟨v5, h5⟩⟩ := p
  dsimp only at hp h5 ⊢
  have hvl := viewS_len xs c k
  rcases Nat.lt_or_ge k xs.length with hlt | hge
  · obtain ⟨⟨xl, xb⟩, hx⟩ := get_lt hlt
    have hst := viewS_step (c := c) hx
    cases hlu : lun xl c with
    | true =>
      have hst' : viewS (xs.take (k + 1)) c = viewS (xs.take k) c ++ [⟨xl, xb⟩] := by rw [hst, if_pos hlu]
      have hcl : ∀ w, Calls Tryz.prog 39 #[.int .i64 xl, .int .i64 c] w (Ret (fun _ : Unit => .bool true) (fun _ => []) w) := fun w => by rw [← hlu]; exact c_i_LabelUnder w
      repeat' (first | refine E.st ?_ | refine E.cl (h := fun _ w _ => hcl w) (k := ?_) | refine E.q3 ?_ | refine E.q ?_ | refine E.qs ?_ | refine E.q2 ?_ | refine E.q4 ?_ | refine E.tr ?_ | refine E.ap (fun _ _ => ?_) | refine E.b1 (fun _ _ => ?_) | refine E.b0 (fun _ _ => ?_) | refine E.bsn (fun _ _ => ?_) | refine E.mk (fun _ _ => ?_) | refine E.bxO (fun _ => ?_) | refine E.al (fun _ => ?_) | refine E.sbO ?_ | refine E.dq ?_ | refine E.ct ?_ | refine E.cf ?_ | refine E.cs (fun hh => ?_) (fun hh => ?_) | refine E.at_block_other rfl ?_)
      refine rd (α := Nat × V1) (k + 1, ⟨_, ?_⟩) hlt (hK := KSub.ownF pk hst'.symm ks)
      assumption
    | false =>
      have hst' : viewS (xs.take (k + 1)) c = viewS (xs.take k) c := by rw [hst, if_neg (by dsimp only; rw [hlu]; simp), List.append_nil]
      have hcl : ∀ w, Calls Tryz.prog 39 #[.int .i64 xl, .int .i64 c] w (Ret (fun _ : Unit => .bool false) (fun _ => []) w) := fun w => by rw [← hlu]; exact c_i_LabelUnder w
      repeat' (first | refine E.st ?_ | refine E.cl (h := fun _ w _ => hcl w) (k := ?_) | refine E.q3 ?_ | refine E.q ?_ | refine E.qs ?_ | refine E.q2 ?_ | refine E.q4 ?_ | refine E.tr ?_ | refine E.ap (fun _ _ => ?_) | refine E.b1 (fun _ _ => ?_) | refine E.b0 (fun _ _ => ?_) | refine E.bsn (fun _ _ => ?_) | refine E.mk (fun _ _ => ?_) | refine E.bxO (fun _ => ?_) | refine E.al (fun _ => ?_) | refine E.sbO ?_ | refine E.dq ?_ | refine E.ct ?_ | refine E.cf ?_ | refine E.cs (fun hh => ?_) (fun hh => ?_) | refine E.at_block_other rfl ?_)
      exact rd (α := Nat × V1) (k + 1, ⟨v5, h5⟩) hlt (hK := KSub.ownF pk hst'.symm ks)
  · rw [List.take_of_length_le hge]
    repeat' (first | refine E.st ?_ | refine E.q3 ?_ | refine E.q ?_ | refine E.qs ?_ | refine E.q2 ?_ | refine E.q4 ?_ | refine E.tr ?_ | refine E.ap (fun _ _ => ?_) | refine E.b1 (fun _ _ => ?_) | refine E.b0 (fun _ _ => ?_) | refine E.bsn (fun _ _ => ?_) | refine E.mk (fun _ _ => ?_) | refine E.bxO (fun _ => ?_) | refine E.al (fun _ => ?_) | refine E.sbO ?_ | refine E.dq ?_ | refine E.ct ?_ | refine E.cf ?_ | refine E.cs (fun hh => ?_) (fun hh => ?_) | refine E.at_block_other rfl ?_)
    exact r1 _
end E
end Go.Proofs.YtpiiapoafmnhhaaGreat
