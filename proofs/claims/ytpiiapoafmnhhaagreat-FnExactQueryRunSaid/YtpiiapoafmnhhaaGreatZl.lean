/- The laws' helpers at stores and pools. -/
import Derived.Test.YtpiiapoafmnhhaaGreatM12
import Derived.Test.YtpiiapoafmnhhaaGreatM04
import Derived.Test.YtpiiapoafmnhhaaGreatUg
namespace Go.Proofs.YtpiiapoafmnhhaaGreat
namespace E
open Go Go.RowKit
set_option linter.unusedSimpArgs false
set_option linter.unusedVariables false
set_option maxHeartbeats 1000000
set_option maxRecDepth 10000
attribute [local irreducible] HC HL HQ HX HO At Y YV Opd Opds KnX Sl Ld Src GV RV Calls Code.wp eptr adr RdF ownF OneX HG LdC
def stot (xs : List Sg) (k : Nat) : Nat := ((xs.take k).map (fun s => s.b.size)).sum
def tots (xs : List Sg) : Nat := xs.length + stot xs xs.length
theorem stot_step {xs : List Sg} {k : Nat} {s : Sg} (h : xs[k]? = some s) : stot xs (k + 1) = stot xs k + s.b.size := by
  simp [stot, List.take_add_one, h]
theorem stot_le (xs : List Sg) (k : Nat) : stot xs k ≤ stot xs xs.length := by
  unfold stot
  rw [List.take_length]
  conv => rhs; rw [← List.take_append_drop k xs, List.map_append, List.sum_append]
  omega
theorem tots_bounds {xs : List Sg} {k : Nat} (h : tots xs ≤ k) : xs.length ≤ k ∧ ∀ s ∈ xs, s.b.size ≤ k := by
  refine ⟨by unfold tots at h; omega, fun s hs => ?_⟩
  obtain ⟨i, hi⟩ := List.getElem?_of_mem hs
  have h1 := stot_step hi
  have h2 := stot_le xs (i + 1)
  unfold tots at h
  omega
theorem c_szSeg {l : Int} {s : ByteArray} {k : Int} (w : World) (hs : s.size ≤ 9223372036854775807) (hk : 0 ≤ k ∧ k ≤ 1048576 := by omega) : Calls Tryz.prog 58 #[.agg #[.int .i64 l, .string s], .int .i64 k] w (Ret (fun _ : Unit => .int .i64 (if k - s.size < 0 then -1 else k - s.size)) (fun _ => []) w) := by
  by_cases hl : (s.size : Int) ≤ k
  · rw [if_neg (by omega)]
    refine enter (args := _) Tryz.func58 rfl Tryz.ntmps58 (by simp) ?_
    repeat' (first | refine E.st ?_ | refine E.q5 ?_ | refine E.q3 ?_ | refine E.q ?_ | refine E.qs ?_ | refine E.q2 ?_ | refine E.q4 ?_ | refine E.tr ?_ | refine E.ap (fun _ _ => ?_) | refine E.b1 (fun _ _ => ?_) | refine E.b0 (fun _ _ => ?_) | refine E.bsn (fun _ _ => ?_) | refine E.mk (fun _ _ => ?_) | refine E.bxO (fun _ => ?_) | refine E.al (fun _ => ?_) | refine E.sbO ?_ | refine E.dq ?_ | refine E.ct ?_ | refine E.cf ?_ | refine E.cs (fun hh => ?_) (fun hh => ?_) | refine E.at_block_other rfl ?_)
    all_goals first
      | exact ri
      | (exfalso; omega)
  · rw [if_pos (by omega)]
    refine enter (args := _) Tryz.func58 rfl Tryz.ntmps58 (by simp) ?_
    repeat' (first | refine E.st ?_ | refine E.q5 ?_ | refine E.q3 ?_ | refine E.q ?_ | refine E.qs ?_ | refine E.q2 ?_ | refine E.q4 ?_ | refine E.tr ?_ | refine E.ap (fun _ _ => ?_) | refine E.b1 (fun _ _ => ?_) | refine E.b0 (fun _ _ => ?_) | refine E.bsn (fun _ _ => ?_) | refine E.mk (fun _ _ => ?_) | refine E.bxO (fun _ => ?_) | refine E.al (fun _ => ?_) | refine E.sbO ?_ | refine E.dq ?_ | refine E.ct ?_ | refine E.cf ?_ | refine E.cs (fun hh => ?_) (fun hh => ?_) | refine E.at_block_other rfl ?_)
    all_goals first
      | exact ri
      | (exfalso; omega)
theorem c_szSegS {v : Value} {xs : List Sg} {k : Int} (w : World) (hsz : ∀ s ∈ xs, s.b.size ≤ 9223372036854775807) (hr : RdF w v xs := by exact rdA) (hk0 : 0 ≤ k ∧ k ≤ 1048576 := by omega) : Calls Tryz.prog 14 #[v, .int .i64 k] w (Ret (fun _ : Unit => .int .i64 (if k - tots xs < 0 then -1 else k - tots xs)) (fun _ => []) w) := by
  have o1 := hr.one
  have m1 := hr.le
  simp only [maxLen] at m1
  have ht : tots xs = xs.length + stot xs xs.length := rfl
  refine enter (args := _) Tryz.func14 rfl Tryz.ntmps14 (by simp) ?_
  repeat' (first | refine E.st ?_ | refine E.q3 ?_ | refine E.q ?_ | refine E.qs ?_ | refine E.q2 ?_ | refine E.q4 ?_ | refine E.tr ?_ | refine E.ap (fun _ _ => ?_) | refine E.b1 (fun _ _ => ?_) | refine E.b0 (fun _ _ => ?_) | refine E.bsn (fun _ _ => ?_) | refine E.mk (fun _ _ => ?_) | refine E.bxO (fun _ => ?_) | refine E.al (fun _ => ?_) | refine E.sbO ?_ | refine E.dq ?_ | refine E.ct ?_ | refine E.cf ?_ | refine E.cs (fun hh => ?_) (fun hh => ?_) | refine E.at_block_other rfl ?_)
  · exact ri (by rw [if_pos (by omega)])
  refine lq (fun i : Nat => i ≤ xs.length ∧ 0 ≤ k - xs.length - stot xs i) (fun i => [(1, .pl (.int .i64 (k - xs.length - stot xs i))), (5, .pl (.int .i64 (i : Int)))]) (fun _ => []) (fun i => xs.length - i) 0 ⟨Nat.zero_le _, by simp [stot]; omega⟩ (fun i hi => ?_) (hF := fs (FSub.int rfl (by simp [stot]) (FSub.int rfl (by omega) FSub.nil)))
  obtain ⟨hi1, hi2⟩ := hi
  rcases Nat.lt_or_ge i xs.length with hlt | hge
  · obtain ⟨⟨sl, sb⟩, hx⟩ := get_lt hlt
    have hb := hsz _ (List.mem_of_getElem? hx)
    have hps := stot_step hx
    have hpl := stot_le xs (i + 1)
    dsimp only at hb hps
    have hkk : 0 ≤ k - xs.length - stot xs i ∧ k - xs.length - stot xs i ≤ 1048576 := by omega
    have hc : ∀ w', Calls Tryz.prog 58 #[.agg #[.int .i64 sl, .string sb], .int .i64 (k - xs.length - stot xs i)] w' (Ret (fun _ : Unit => .int .i64 (if k - xs.length - stot xs i - sb.size < 0 then -1 else k - xs.length - stot xs i - sb.size)) (fun _ => []) w') := fun w' => c_szSeg w' hb hkk
    by_cases hd : (sb.size : Int) ≤ k - xs.length - stot xs i
    · rw [if_neg (by omega)] at hc
      repeat' (first | refine E.st ?_ | refine E.cl (h := fun _ w hw => hc w) (k := ?_) | refine E.q3 ?_ | refine E.q ?_ | refine E.qs ?_ | refine E.q2 ?_ | refine E.q4 ?_ | refine E.tr ?_ | refine E.ap (fun _ _ => ?_) | refine E.b1 (fun _ _ => ?_) | refine E.b0 (fun _ _ => ?_) | refine E.bsn (fun _ _ => ?_) | refine E.mk (fun _ _ => ?_) | refine E.bxO (fun _ => ?_) | refine E.al (fun _ => ?_) | refine E.sbO ?_ | refine E.dq ?_ | refine E.ct ?_ | refine E.cf ?_ | refine E.cs (fun hh => ?_) (fun hh => ?_) | refine E.at_block_other rfl ?_)
      exact rd (i + 1) ⟨by omega, by omega⟩
    · rw [if_pos (by omega)] at hc
      repeat' (first | refine E.st ?_ | refine E.cl (h := fun _ w hw => hc w) (k := ?_) | refine E.q3 ?_ | refine E.q ?_ | refine E.qs ?_ | refine E.q2 ?_ | refine E.q4 ?_ | refine E.tr ?_ | refine E.ap (fun _ _ => ?_) | refine E.b1 (fun _ _ => ?_) | refine E.b0 (fun _ _ => ?_) | refine E.bsn (fun _ _ => ?_) | refine E.mk (fun _ _ => ?_) | refine E.bxO (fun _ => ?_) | refine E.al (fun _ => ?_) | refine E.sbO ?_ | refine E.dq ?_ | refine E.ct ?_ | refine E.cf ?_ | refine E.cs (fun hh => ?_) (fun hh => ?_) | refine E.at_block_other rfl ?_)
      exact ri (by rw [if_pos (by omega)])
  · repeat' (first | refine E.st ?_ | refine E.q3 ?_ | refine E.q ?_ | refine E.qs ?_ | refine E.q2 ?_ | refine E.q4 ?_ | refine E.tr ?_ | refine E.ap (fun _ _ => ?_) | refine E.b1 (fun _ _ => ?_) | refine E.b0 (fun _ _ => ?_) | refine E.bsn (fun _ _ => ?_) | refine E.mk (fun _ _ => ?_) | refine E.bxO (fun _ => ?_) | refine E.al (fun _ => ?_) | refine E.sbO ?_ | refine E.dq ?_ | refine E.ct ?_ | refine E.cf ?_ | refine E.cs (fun hh => ?_) (fun hh => ?_) | refine E.at_block_other rfl ?_)
    have hie : i = xs.length := by omega
    subst hie
    refine ri ?_
    rw [if_neg (by omega), ht]
    omega
theorem c_toSeg {l : Int} {s : ByteArray} (w : World) : Calls Tryz.prog 63 #[.agg #[.int .i64 l, .string s]] w (Ret (fun _ : Unit => .agg #[.int .i64 l, .string s]) (fun _ => []) w) := by
  refine enter (args := _) Tryz.func63 rfl Tryz.ntmps63 (by simp) ?_
  repeat' (first | refine E.st ?_ | refine E.q3 ?_ | refine E.q ?_ | refine E.qs ?_ | refine E.q2 ?_ | refine E.q4 ?_ | refine E.tr ?_ | refine E.ap (fun _ _ => ?_) | refine E.b1 (fun _ _ => ?_) | refine E.b0 (fun _ _ => ?_) | refine E.bsn (fun _ _ => ?_) | refine E.mk (fun _ _ => ?_) | refine E.bxO (fun _ => ?_) | refine E.al (fun _ => ?_) | refine E.sbO ?_ | refine E.dq ?_ | refine E.ct ?_ | refine E.cf ?_ | refine E.cs (fun hh => ?_) (fun hh => ?_) | refine E.at_block_other rfl ?_)
  exact r1 ()
theorem c_toSegS {v : Value} {xs : List Sg} (w : World) (hr : RdF w v xs := by exact rdA) (hn : xs.length ≤ 1048576 := by omega) : Calls Tryz.prog 16 #[v] w (Ret (fun z : V1 => z.1) (fun z => [ownF 65 z.1 xs]) w) := by
  have o1 := hr.one
  refine enter (args := _) Tryz.func16 rfl Tryz.ntmps16 (by simp) ?_
  repeat' (first | refine E.st ?_ | refine E.mk (α := Sg) (z' := ⟨0, ⟨#[]⟩⟩) (fun _ _ => ?_) | refine E.q3 ?_ | refine E.q ?_ | refine E.qs ?_ | refine E.q2 ?_ | refine E.q4 ?_ | refine E.tr ?_ | refine E.ap (fun _ _ => ?_) | refine E.b1 (fun _ _ => ?_) | refine E.b0 (fun _ _ => ?_) | refine E.bsn (fun _ _ => ?_) | refine E.mk (fun _ _ => ?_) | refine E.bxO (fun _ => ?_) | refine E.al (fun _ => ?_) | refine E.sbO ?_ | refine E.dq ?_ | refine E.ct ?_ | refine E.cf ?_ | refine E.cs (fun hh => ?_) (fun hh => ?_) | refine E.at_block_other rfl ?_)
  rename_i v3 h3
  refine lq (fun j : Nat => j ≤ xs.length) (fun j => [(4, .pl (.int .i64 (j : Int)))]) (fun j => [ownF 65 v3 (xs.take j ++ List.replicate (xs.length - j) (⟨0, ⟨#[]⟩⟩ : Sg))]) (fun j => xs.length - j) 0 (Nat.zero_le _) (fun j hj => ?_) (hK := by exact Spl.ownF pk (by simp) (Spl.nil _))
  have hnd : (xs.take j).length = j := by rw [List.length_take]; omega
  rcases Nat.lt_or_ge j xs.length with hjlt | hjge
  · obtain ⟨⟨sl, sb⟩, hx⟩ := get_lt hjlt
    have hL : (xs.take j ++ List.replicate (xs.length - j) (⟨0, ⟨#[]⟩⟩ : Sg)).length = xs.length := by rw [List.length_append, hnd, List.length_replicate]; omega
    have hz0 : (xs.take j ++ List.replicate (xs.length - j) (⟨0, ⟨#[]⟩⟩ : Sg))[j]? = some ⟨0, ⟨#[]⟩⟩ := by
      rw [List.getElem?_append_right (by omega), hnd, Nat.sub_self, List.getElem?_replicate, if_pos (by omega)]
    have hset : (xs.take j ++ List.replicate (xs.length - j) (⟨0, ⟨#[]⟩⟩ : Sg)).set j ⟨sl, sb⟩ = xs.take (j + 1) ++ List.replicate (xs.length - (j + 1)) (⟨0, ⟨#[]⟩⟩ : Sg) := by
      rw [List.set_append_right _ _ (by omega), hnd, Nat.sub_self, show xs.length - j = (xs.length - (j + 1)) + 1 from by omega, List.replicate_succ, List.set_cons_zero, List.take_add_one, hx, List.append_assoc]
      rfl
    repeat' (first | refine E.st ?_ | refine E.cl (h := fun _ w _ => c_toSeg w) (k := ?_)  | refine E.q3 ?_ | refine E.q ?_ | refine E.qs ?_ | refine E.q2 ?_ | refine E.q4 ?_ | refine E.tr ?_ | refine E.ap (fun _ _ => ?_) | refine E.b1 (fun _ _ => ?_) | refine E.b0 (fun _ _ => ?_) | refine E.bsn (fun _ _ => ?_) | refine E.mk (fun _ _ => ?_) | refine E.bxO (fun _ => ?_) | refine E.al (fun _ => ?_) | refine E.sbO ?_ | refine E.dq ?_ | refine E.ct ?_ | refine E.cf ?_ | refine E.cs (fun hh => ?_) (fun hh => ?_) | refine E.at_block_other rfl ?_)
    exact rd (j + 1) hjlt (hK := KSub.ownF pk hset ksv)
  · have hend : xs.take j ++ List.replicate (xs.length - j) (⟨0, ⟨#[]⟩⟩ : Sg) = xs := by rw [List.take_of_length_le hjge, show xs.length - j = 0 from by omega, List.replicate_zero, List.append_nil]
    rw [hend]
    repeat' (first | refine E.st ?_ | refine E.q3 ?_ | refine E.q ?_ | refine E.qs ?_ | refine E.q2 ?_ | refine E.q4 ?_ | refine E.tr ?_ | refine E.ap (fun _ _ => ?_) | refine E.b1 (fun _ _ => ?_) | refine E.b0 (fun _ _ => ?_) | refine E.bsn (fun _ _ => ?_) | refine E.mk (fun _ _ => ?_) | refine E.bxO (fun _ => ?_) | refine E.al (fun _ => ?_) | refine E.sbO ?_ | refine E.dq ?_ | refine E.ct ?_ | refine E.cf ?_ | refine E.cs (fun hh => ?_) (fun hh => ?_) | refine E.at_block_other rfl ?_)
    exact r1 (α := V1) ⟨v3, h3⟩ (hK := ksv)
theorem c_eqSeg {l l' : Int} {s s' : ByteArray} (w : World) : Calls Tryz.prog 67 #[.agg #[.int .i64 l, .string s], .agg #[.int .i64 l', .string s']] w (Ret (fun _ : Unit => .bool (decide ((⟨l, s⟩ : Sg) = ⟨l', s'⟩))) (fun _ => []) w) := by
  by_cases h1 : l = l'
  · by_cases h2 : s = s'
    · subst h1 h2
      rw [decide_eq_true rfl]
      refine enter (args := _) Tryz.func67 rfl Tryz.ntmps67 (by simp) ?_
      repeat' (first | refine E.st ?_ | refine E.q5 ?_ | refine E.q3 ?_ | refine E.q ?_ | refine E.qs ?_ | refine E.q2 ?_ | refine E.q4 ?_ | refine E.tr ?_ | refine E.ap (fun _ _ => ?_) | refine E.b1 (fun _ _ => ?_) | refine E.b0 (fun _ _ => ?_) | refine E.bsn (fun _ _ => ?_) | refine E.mk (fun _ _ => ?_) | refine E.bxO (fun _ => ?_) | refine E.al (fun _ => ?_) | refine E.sbO ?_ | refine E.dq ?_ | refine E.ct ?_ | refine E.cf ?_ | refine E.cs (fun hh => ?_) (fun hh => ?_) | refine E.at_block_other rfl ?_)
      all_goals first
        | exact rb
        | (exfalso; simp_all; done)
    · rw [decide_eq_false (fun h => h2 (by injection h))]
      refine enter (args := _) Tryz.func67 rfl Tryz.ntmps67 (by simp) ?_
      repeat' (first | refine E.st ?_ | refine E.q5 ?_ | refine E.q3 ?_ | refine E.q ?_ | refine E.qs ?_ | refine E.q2 ?_ | refine E.q4 ?_ | refine E.tr ?_ | refine E.ap (fun _ _ => ?_) | refine E.b1 (fun _ _ => ?_) | refine E.b0 (fun _ _ => ?_) | refine E.bsn (fun _ _ => ?_) | refine E.mk (fun _ _ => ?_) | refine E.bxO (fun _ => ?_) | refine E.al (fun _ => ?_) | refine E.sbO ?_ | refine E.dq ?_ | refine E.ct ?_ | refine E.cf ?_ | refine E.cs (fun hh => ?_) (fun hh => ?_) | refine E.at_block_other rfl ?_)
      all_goals first
        | exact rb
        | (exfalso; simp_all; done)
  · rw [decide_eq_false (fun h => h1 (by injection h))]
    refine enter (args := _) Tryz.func67 rfl Tryz.ntmps67 (by simp) ?_
    repeat' (first | refine E.st ?_ | refine E.q5 ?_ | refine E.q3 ?_ | refine E.q ?_ | refine E.qs ?_ | refine E.q2 ?_ | refine E.q4 ?_ | refine E.tr ?_ | refine E.ap (fun _ _ => ?_) | refine E.b1 (fun _ _ => ?_) | refine E.b0 (fun _ _ => ?_) | refine E.bsn (fun _ _ => ?_) | refine E.mk (fun _ _ => ?_) | refine E.bxO (fun _ => ?_) | refine E.al (fun _ => ?_) | refine E.sbO ?_ | refine E.dq ?_ | refine E.ct ?_ | refine E.cf ?_ | refine E.cs (fun hh => ?_) (fun hh => ?_) | refine E.at_block_other rfl ?_)
    all_goals first
      | exact rb
      | (exfalso; simp_all; done)
theorem c_eqSegS_same {v u : Value} {xs : List Sg} (w : World) (hr : RdF w v xs := by exact rdA) (hq : RdF w u xs := by exact rdA) : Calls Tryz.prog 20 #[v, u] w (Ret (fun _ : Unit => .bool true) (fun _ => []) w) := by
  have o1 := hr.one
  have o2 := hq.one
  have m1 := hr.le
  simp only [maxLen] at m1
  refine enter (args := _) Tryz.func20 rfl Tryz.ntmps20 (by simp) ?_
  repeat' (first | refine E.st ?_ | refine E.q3 ?_ | refine E.q ?_ | refine E.qs ?_ | refine E.q2 ?_ | refine E.q4 ?_ | refine E.tr ?_ | refine E.ap (fun _ _ => ?_) | refine E.b1 (fun _ _ => ?_) | refine E.b0 (fun _ _ => ?_) | refine E.bsn (fun _ _ => ?_) | refine E.mk (fun _ _ => ?_) | refine E.bxO (fun _ => ?_) | refine E.al (fun _ => ?_) | refine E.sbO ?_ | refine E.dq ?_ | refine E.ct ?_ | refine E.cf ?_ | refine E.cs (fun hh => ?_) (fun hh => ?_) | refine E.at_block_other rfl ?_)
  refine lq (fun j : Nat => j ≤ xs.length) (fun j => [(5, .pl (.int .i64 (j : Int)))]) (fun _ => ([] : List Ck)) (fun j => xs.length - j) 0 (Nat.zero_le _) (fun j hj => ?_)
  rcases Nat.lt_or_ge j xs.length with hjlt | hjge
  · obtain ⟨⟨sl, sb⟩, hx⟩ := get_lt hjlt
    have hc : ∀ w, Calls Tryz.prog 67 #[.agg #[.int .i64 sl, .string sb], .agg #[.int .i64 sl, .string sb]] w (Ret (fun _ : Unit => .bool true) (fun _ => []) w) := fun w => by
      have := c_eqSeg (l := sl) (l' := sl) (s := sb) (s' := sb) w
      rwa [decide_eq_true rfl] at this
    repeat' (first | refine E.st ?_ | refine E.dxa [0, 1, 2, 3, 4, 5, 6, 7, 8, 9] ?_ | refine E.cl (h := fun _ w hw => hc w) (k := ?_) | refine E.q3 ?_ | refine E.q ?_ | refine E.qs ?_ | refine E.q2 ?_ | refine E.q4 ?_ | refine E.tr ?_ | refine E.ap (fun _ _ => ?_) | refine E.b1 (fun _ _ => ?_) | refine E.b0 (fun _ _ => ?_) | refine E.bsn (fun _ _ => ?_) | refine E.mk (fun _ _ => ?_) | refine E.bxO (fun _ => ?_) | refine E.al (fun _ => ?_) | refine E.sbO ?_ | refine E.dq ?_ | refine E.ct ?_ | refine E.cf ?_ | refine E.cs (fun hh => ?_) (fun hh => ?_) | refine E.at_block_other rfl ?_)
    all_goals first
      | exact rd (j + 1) hjlt
      | (exfalso; simp at hh; done)
  · repeat' (first | refine E.st ?_ | refine E.q3 ?_ | refine E.q ?_ | refine E.qs ?_ | refine E.q2 ?_ | refine E.q4 ?_ | refine E.tr ?_ | refine E.ap (fun _ _ => ?_) | refine E.b1 (fun _ _ => ?_) | refine E.b0 (fun _ _ => ?_) | refine E.bsn (fun _ _ => ?_) | refine E.mk (fun _ _ => ?_) | refine E.bxO (fun _ => ?_) | refine E.al (fun _ => ?_) | refine E.sbO ?_ | refine E.dq ?_ | refine E.ct ?_ | refine E.cf ?_ | refine E.cs (fun hh => ?_) (fun hh => ?_) | refine E.at_block_other rfl ?_)
    exact rb
theorem c_markText {k : Int} (w : World) (hk : 0 ≤ k ∧ k ≤ 1000000000000 := by omega) : Calls Tryz.prog 68 #[.int .i64 k] w (Ret (fun s : ByteArray => .string s) (fun _ => []) w) := by
  rcases Int.lt_or_le 0 k with hpos | hneg
  · refine enter (args := _) Tryz.func68 rfl Tryz.ntmps68 (by simp) ?_
    repeat' (first | refine E.st ?_ | refine E.q3 ?_ | refine E.q ?_ | refine E.qs ?_ | refine E.q2 ?_ | refine E.q4 ?_ | refine E.tr ?_ | refine E.ap (fun _ _ => ?_) | refine E.b1 (fun _ _ => ?_) | refine E.b0 (fun _ _ => ?_) | refine E.bsn (fun _ _ => ?_) | refine E.mk (fun _ _ => ?_) | refine E.bxO (fun _ => ?_) | refine E.al (fun _ => ?_) | refine E.sbO ?_ | refine E.dq ?_ | refine E.ct ?_ | refine E.cf ?_ | refine E.cs (fun hh => ?_) (fun hh => ?_) | refine E.at_block_other rfl ?_)
    all_goals first
      | (exfalso; omega)
      | skip
    refine lq (fun z : Int × ByteArray => 0 ≤ z.1 ∧ (z.2.size : Int) + z.1 ≤ k) (fun z => [(0, .pl (.int .i64 z.1)), (3, .pl (.string z.2))]) (fun _ => ([] : List Ck)) (fun z => z.1.toNat) (k, ⟨#[]⟩) ⟨by dsimp only; omega, by show (0 : Int) + k ≤ k; omega⟩ (fun z hz => ?_)
    obtain ⟨m, s⟩ := z
    obtain ⟨hm, hs⟩ := hz
    dsimp only at hm hs ⊢
    rcases Int.lt_or_le 0 m with hmp | hmn
    · have e1 : m.tdiv 10 = m / 10 := Int.tdiv_eq_ediv_of_nonneg (by omega)
      have e2 : m.tmod 10 = m % 10 := Int.tmod_eq_emod_of_nonneg (by omega)
      have w1 : IntKind.i64.wrap (m.tdiv 10) = m / 10 := by rw [e1]; exact wrap_i64_of (by omega)
      have z1 : (tx [UInt8.ofInt (48 + m.tmod 10)]).size = 1 := rfl
      have z2 : (tx [UInt8.ofInt (48 + m.tmod 10)] ++ s).size = 1 + s.size := by rw [ByteArray.size_append, z1]
      repeat' (first | refine E.st ?_ | refine E.q5 ?_ | refine E.q3 ?_ | refine E.q ?_ | refine E.qs ?_ | refine E.q2 ?_ | refine E.q4 ?_ | refine E.tr ?_ | refine E.ap (fun _ _ => ?_) | refine E.b1 (fun _ _ => ?_) | refine E.b0 (fun _ _ => ?_) | refine E.bsn (fun _ _ => ?_) | refine E.mk (fun _ _ => ?_) | refine E.bxO (fun _ => ?_) | refine E.al (fun _ => ?_) | refine E.sbO ?_ | refine E.dq ?_ | refine E.ct ?_ | refine E.cf ?_ | refine E.cs (fun hh => ?_) (fun hh => ?_) | refine E.at_block_other rfl ?_)
      exact rd (α := Int × ByteArray) (m / 10, tx [UInt8.ofInt (48 + m.tmod 10)] ++ s) ⟨by dsimp only; omega, by dsimp only; omega⟩ (by dsimp only; omega) (hF := by rw [← w1]; exact fs)
    · have : m = 0 := by omega
      subst this
      have z3 : (⟨#[109]⟩ : ByteArray).size = 1 := rfl
      repeat' (first | refine E.st ?_ | refine E.q5 ?_ | refine E.q3 ?_ | refine E.q ?_ | refine E.qs ?_ | refine E.q2 ?_ | refine E.q4 ?_ | refine E.tr ?_ | refine E.ap (fun _ _ => ?_) | refine E.b1 (fun _ _ => ?_) | refine E.b0 (fun _ _ => ?_) | refine E.bsn (fun _ _ => ?_) | refine E.mk (fun _ _ => ?_) | refine E.bxO (fun _ => ?_) | refine E.al (fun _ => ?_) | refine E.sbO ?_ | refine E.dq ?_ | refine E.ct ?_ | refine E.cf ?_ | refine E.cs (fun hh => ?_) (fun hh => ?_) | refine E.at_block_other rfl ?_)
      all_goals first
        | exact r1 _ (hK := ksv)
        | (exfalso; omega)
  · refine enter (args := _) Tryz.func68 rfl Tryz.ntmps68 (by simp) ?_
    repeat' (first | refine E.st ?_ | refine E.q3 ?_ | refine E.q ?_ | refine E.qs ?_ | refine E.q2 ?_ | refine E.q4 ?_ | refine E.tr ?_ | refine E.ap (fun _ _ => ?_) | refine E.b1 (fun _ _ => ?_) | refine E.b0 (fun _ _ => ?_) | refine E.bsn (fun _ _ => ?_) | refine E.mk (fun _ _ => ?_) | refine E.bxO (fun _ => ?_) | refine E.al (fun _ => ?_) | refine E.sbO ?_ | refine E.dq ?_ | refine E.ct ?_ | refine E.cf ?_ | refine E.cs (fun hh => ?_) (fun hh => ?_) | refine E.at_block_other rfl ?_)
    all_goals first
      | exact r1 _ (hK := ksv)
      | (exfalso; omega)
theorem c_markSegS {w0 : World} {K : List Ck} {v : Value} {xs : List Sg} {k : Int} (w : World) (hw : KOk w0 (ownF 65 v xs :: K) w) (hk : 0 ≤ k ∧ k ≤ 100000000000 := by omega) (hn : xs.length ≤ 10000000 := by omega) :
    Calls Tryz.prog 21 #[v, .int .i64 k] w (RetK (fun _ : List Sg => .int .i64 (k + ((xs.length * 2 : Nat) : Int))) (fun z => ownF 65 v z :: K) w0) := by
  have ho : v.oneCell' = true := (RdF.of_own (List.mem_cons_self) hw : RdF w v xs).one
  refine enterK (args := _) hw Tryz.func21 rfl Tryz.ntmps21 (by simp) ?_
  repeat' (first | refine E.st ?_ | refine E.q3 ?_ | refine E.q ?_ | refine E.qs ?_ | refine E.q2 ?_ | refine E.q4 ?_ | refine E.tr ?_ | refine E.ap (fun _ _ => ?_) | refine E.b1 (fun _ _ => ?_) | refine E.b0 (fun _ _ => ?_) | refine E.bsn (fun _ _ => ?_) | refine E.mk (fun _ _ => ?_) | refine E.bxO (fun _ => ?_) | refine E.al (fun _ => ?_) | refine E.sbO ?_ | refine E.dq ?_ | refine E.ct ?_ | refine E.cf ?_ | refine E.cs (fun hh => ?_) (fun hh => ?_) | refine E.at_block_other rfl ?_)
  refine lq (fun z : Nat × List Sg => z.1 ≤ xs.length ∧ z.2.length = xs.length) (fun z => [(5, .pl (.int .i64 (z.1 : Int))), (1, .pl (.int .i64 (k + ((z.1 * 2 : Nat) : Int))))]) (fun z => [ownF 65 v z.2]) (fun z => xs.length - z.1) (0, xs) ⟨Nat.zero_le _, rfl⟩ (fun z hz => ?_)
  obtain ⟨j, ys⟩ := z
  obtain ⟨hj, hl⟩ := hz
  dsimp only at hj hl ⊢
  rcases Nat.lt_or_ge j xs.length with hjlt | hjge
  · obtain ⟨⟨sl, sb⟩, hx⟩ := get_lt (xs := ys) (k := j) (by omega)
    repeat' (first | refine E.st ?_ | refine E.trn (fun R hR1 hR2 hR3 => ?_) | refine E.cm (h := fun w _ => c_markText w) (k := fun s => ?_) | refine E.q3 ?_ | refine E.q ?_ | refine E.qs ?_ | refine E.q2 ?_ | refine E.q4 ?_ | refine E.tr ?_ | refine E.ap (fun _ _ => ?_) | refine E.b1 (fun _ _ => ?_) | refine E.b0 (fun _ _ => ?_) | refine E.bsn (fun _ _ => ?_) | refine E.mk (fun _ _ => ?_) | refine E.bxO (fun _ => ?_) | refine E.al (fun _ => ?_) | refine E.sbO ?_ | refine E.dq ?_ | refine E.ct ?_ | refine E.cf ?_ | refine E.cs (fun hh => ?_) (fun hh => ?_) | refine E.at_block_other rfl ?_)
    exact rd (α := Nat × List Sg) (j + 1, R) ⟨hjlt, by dsimp only; omega⟩ (by dsimp only; omega)
  · have hje : j = xs.length := by omega
    subst hje
    repeat' (first | refine E.st ?_ | refine E.q3 ?_ | refine E.q ?_ | refine E.qs ?_ | refine E.q2 ?_ | refine E.q4 ?_ | refine E.tr ?_ | refine E.ap (fun _ _ => ?_) | refine E.b1 (fun _ _ => ?_) | refine E.b0 (fun _ _ => ?_) | refine E.bsn (fun _ _ => ?_) | refine E.mk (fun _ _ => ?_) | refine E.bxO (fun _ => ?_) | refine E.al (fun _ => ?_) | refine E.sbO ?_ | refine E.dq ?_ | refine E.ct ?_ | refine E.cf ?_ | refine E.cs (fun hh => ?_) (fun hh => ?_) | refine E.at_block_other rfl ?_)
    exact r1K ys (hK := ksv)
theorem c_markPool {w0 : World} {K : List Ck} {z : Int} {A : Option Addr} {n c : Nat} {xs : List Pg} {k : Int} (w : World) (hw : KOk w0 (ownF 63 (.slice A n c) xs :: K) w) (hk : 0 ≤ k ∧ k ≤ 100000000000 := by omega) (hn : xs.length ≤ 10000000 := by omega) :
    Calls Tryz.prog 47 #[.agg #[.int .i64 z, .slice A n c], .int .i64 k] w (RetK (fun _ : Unit => .int .i64 (k + ((xs.length * 2 : Nat) : Int))) (fun _ => ownF 63 (.slice A n c) (marks E.Pg xs.length k) :: K) w0) := by
  refine enterK (args := _) hw Tryz.func47 rfl Tryz.ntmps47 (by simp) ?_
  repeat' (first | refine E.st ?_ | refine E.ckq (h := fun w hw => c_markPageS (xs := xs) (k := k) w hw) (k := fun _ => ?_) | refine E.q3 ?_ | refine E.q ?_ | refine E.qs ?_ | refine E.q2 ?_ | refine E.q4 ?_ | refine E.tr ?_ | refine E.ap (fun _ _ => ?_) | refine E.b1 (fun _ _ => ?_) | refine E.b0 (fun _ _ => ?_) | refine E.bsn (fun _ _ => ?_) | refine E.mk (fun _ _ => ?_) | refine E.bxO (fun _ => ?_) | refine E.al (fun _ => ?_) | refine E.sbO ?_ | refine E.dq ?_ | refine E.ct ?_ | refine E.cf ?_ | refine E.cs (fun hh => ?_) (fun hh => ?_) | refine E.at_block_other rfl ?_)
  exact r1K () (hK := ksv)
theorem c_heldPool {z : Int} {A : Option Addr} {m c n : Nat} {k : Int} (w : World) (hr : RdF w (.slice A m c) (marks E.Pg n k) := by exact rdA) (hk : 0 ≤ k ∧ k ≤ 100000000000 := by omega) (hn : n ≤ 10000000 := by omega) :
    Calls Tryz.prog 50 #[.agg #[.int .i64 z, .slice A m c], .int .i64 k] w (Ret (fun _ : Unit => .int .i64 (k + ((n * 2 : Nat) : Int))) (fun _ => []) w) := by
  refine enter (args := _) Tryz.func50 rfl Tryz.ntmps50 (by simp) ?_
  repeat' (first | refine E.st ?_ | refine E.cl (h := fun _ w hw => c_heldPageS (n := n) (k := k) w (hr.now hw)) (k := ?_) | refine E.q3 ?_ | refine E.q ?_ | refine E.qs ?_ | refine E.q2 ?_ | refine E.q4 ?_ | refine E.tr ?_ | refine E.ap (fun _ _ => ?_) | refine E.b1 (fun _ _ => ?_) | refine E.b0 (fun _ _ => ?_) | refine E.bsn (fun _ _ => ?_) | refine E.mk (fun _ _ => ?_) | refine E.bxO (fun _ => ?_) | refine E.al (fun _ => ?_) | refine E.sbO ?_ | refine E.dq ?_ | refine E.ct ?_ | refine E.cf ?_ | refine E.cs (fun hh => ?_) (fun hh => ?_) | refine E.at_block_other rfl ?_)
  all_goals first
    | exact ri
    | (exfalso; omega)
end E
end Go.Proofs.YtpiiapoafmnhhaaGreat
