/- The program's peeling and cores. -/
import Derived.Test.YtjdagbicjhmeeaaIa
import Derived.Test.YtjdagbicjhmeeaaCe
namespace Go.Proofs.Ytjdagbicjhmeeaa
namespace E
open Go Go.RowKit
set_option linter.unusedSimpArgs false
set_option linter.unusedVariables false
set_option maxHeartbeats 1000000
set_option maxRecDepth 10000
attribute [local irreducible] HC HL HQ HX HO At Y YV Opd Opds KnX Sl Ld Src GV RV Calls Code.wp eptr adr RdF ownF OneX HG LdC
theorem c_idxB {v : Value} {xs : List Bool} {b : Bool} (w : World) (hr : RdF w v xs := by exact rdA) : Calls Try.prog 132 #[v, .bool b] w (Ret (fun _ : Unit => .int .i64 (posG xs b)) (fun _ => []) w) := by
  have m1 := hr.le
  simp only [maxLen] at m1
  refine enter (args := _) Try.func132 rfl Try.ntmps132 (by simp) ?_
  repeat' (first | refine E.st ?_ | refine E.q3 ?_ | refine E.q ?_ | refine E.qs ?_ | refine E.q2 ?_ | refine E.q4 ?_ | refine E.tr ?_ | refine E.ap (fun _ _ => ?_) | refine E.b1 (fun _ _ => ?_) | refine E.b0 (fun _ _ => ?_) | refine E.bsn (fun _ _ => ?_) | refine E.mk (fun _ _ => ?_) | refine E.bxO (fun _ => ?_) | refine E.al (fun _ => ?_) | refine E.sbO ?_ | refine E.dq ?_ | refine E.ct ?_ | refine E.cf ?_ | refine E.cs (fun hh => ?_) (fun hh => ?_) | refine E.at_block_other rfl ?_)
  refine lq (fun k : Nat => k ≤ xs.length ∧ ∀ y ∈ xs.take k, y ≠ b) (fun k => [(8, .pl (.int .i64 (k : Int)))]) (fun _ => []) (fun k => xs.length - k) 0 ⟨Nat.zero_le _, by simp⟩ (fun k hk0 => ?_)
  obtain ⟨hk1, hk2⟩ := hk0
  rcases Nat.lt_or_ge k xs.length with hlt | hge
  · obtain ⟨x, hx⟩ := get_lt hlt
    repeat' (first | refine E.st ?_ | refine E.q3 ?_ | refine E.q ?_ | refine E.qs ?_ | refine E.q2 ?_ | refine E.q4 ?_ | refine E.tr ?_ | refine E.ap (fun _ _ => ?_) | refine E.b1 (fun _ _ => ?_) | refine E.b0 (fun _ _ => ?_) | refine E.bsn (fun _ _ => ?_) | refine E.mk (fun _ _ => ?_) | refine E.bxO (fun _ => ?_) | refine E.al (fun _ => ?_) | refine E.sbO ?_ | refine E.dq ?_ | refine E.ct ?_ | refine E.cf ?_ | refine E.cs (fun hh => ?_) (fun hh => ?_) | refine E.at_block_other rfl ?_)
    · refine ri ?_
      have e : x = b := (beq_iff_eq.1 hh).symm
      rw [posG_some (by rw [hx, e]) hk2]
    · exact rd (k + 1) ⟨by omega, all_step hk2 hx (fun e => by rw [e] at hh; simp at hh)⟩
  · repeat' (first | refine E.st ?_ | refine E.q3 ?_ | refine E.q ?_ | refine E.qs ?_ | refine E.q2 ?_ | refine E.q4 ?_ | refine E.tr ?_ | refine E.ap (fun _ _ => ?_) | refine E.b1 (fun _ _ => ?_) | refine E.b0 (fun _ _ => ?_) | refine E.bsn (fun _ _ => ?_) | refine E.mk (fun _ _ => ?_) | refine E.bxO (fun _ => ?_) | refine E.al (fun _ => ?_) | refine E.sbO ?_ | refine E.dq ?_ | refine E.ct ?_ | refine E.cf ?_ | refine E.cs (fun hh => ?_) (fun hh => ?_) | refine E.at_block_other rfl ?_)
    refine ri ?_
    rw [List.take_of_length_le hge] at hk2
    rw [posG_none (fun h => hk2 _ h rfl)]
theorem c_hasB {v : Value} {xs : List Bool} {b : Bool} (w : World) (hr : RdF w v xs := by exact rdA) : Calls Try.prog 109 #[v, .bool b] w (Ret (fun _ : Unit => .bool (decide (b ∈ xs))) (fun _ => []) w) := by
  refine enter (args := _) Try.func109 rfl Try.ntmps109 (by simp) ?_
  repeat' (first | refine E.st ?_ | refine E.cl (h := fun _ w _ => c_idxB w) (k := ?_)  | refine E.q3 ?_ | refine E.q ?_ | refine E.qs ?_ | refine E.q2 ?_ | refine E.q4 ?_ | refine E.tr ?_ | refine E.ap (fun _ _ => ?_) | refine E.b1 (fun _ _ => ?_) | refine E.b0 (fun _ _ => ?_) | refine E.bsn (fun _ _ => ?_) | refine E.mk (fun _ _ => ?_) | refine E.bxO (fun _ => ?_) | refine E.al (fun _ => ?_) | refine E.sbO ?_ | refine E.dq ?_ | refine E.ct ?_ | refine E.cf ?_ | refine E.cs (fun hh => ?_) (fun hh => ?_) | refine E.at_block_other rfl ?_)
  refine rb ?_
  rw [decide_eq_decide]
  exact posG_neg
theorem c_idxI {v : Value} {xs : List Int} {b : Int} (w : World) (hr : RdF w v xs := by exact rdA) : Calls Try.prog 96 #[v, .int .i64 b] w (Ret (fun _ : Unit => .int .i64 (posG xs b)) (fun _ => []) w) := by
  have m1 := hr.le
  simp only [maxLen] at m1
  refine enter (args := _) Try.func96 rfl Try.ntmps96 (by simp) ?_
  repeat' (first | refine E.st ?_ | refine E.q3 ?_ | refine E.q ?_ | refine E.qs ?_ | refine E.q2 ?_ | refine E.q4 ?_ | refine E.tr ?_ | refine E.ap (fun _ _ => ?_) | refine E.b1 (fun _ _ => ?_) | refine E.b0 (fun _ _ => ?_) | refine E.bsn (fun _ _ => ?_) | refine E.mk (fun _ _ => ?_) | refine E.bxO (fun _ => ?_) | refine E.al (fun _ => ?_) | refine E.sbO ?_ | refine E.dq ?_ | refine E.ct ?_ | refine E.cf ?_ | refine E.cs (fun hh => ?_) (fun hh => ?_) | refine E.at_block_other rfl ?_)
  refine lq (fun k : Nat => k ≤ xs.length ∧ ∀ y ∈ xs.take k, y ≠ b) (fun k => [(8, .pl (.int .i64 (k : Int)))]) (fun _ => []) (fun k => xs.length - k) 0 ⟨Nat.zero_le _, by simp⟩ (fun k hk0 => ?_)
  obtain ⟨hk1, hk2⟩ := hk0
  rcases Nat.lt_or_ge k xs.length with hlt | hge
  · obtain ⟨x, hx⟩ := get_lt hlt
    repeat' (first | refine E.st ?_ | refine E.q3 ?_ | refine E.q ?_ | refine E.qs ?_ | refine E.q2 ?_ | refine E.q4 ?_ | refine E.tr ?_ | refine E.ap (fun _ _ => ?_) | refine E.b1 (fun _ _ => ?_) | refine E.b0 (fun _ _ => ?_) | refine E.bsn (fun _ _ => ?_) | refine E.mk (fun _ _ => ?_) | refine E.bxO (fun _ => ?_) | refine E.al (fun _ => ?_) | refine E.sbO ?_ | refine E.dq ?_ | refine E.ct ?_ | refine E.cf ?_ | refine E.cs (fun hh => ?_) (fun hh => ?_) | refine E.at_block_other rfl ?_)
    · refine ri ?_
      rw [posG_some (by rw [hx, hh]) hk2]
    · exact rd (k + 1) ⟨by omega, all_step hk2 hx (fun e => hh e.symm)⟩
  · repeat' (first | refine E.st ?_ | refine E.q3 ?_ | refine E.q ?_ | refine E.qs ?_ | refine E.q2 ?_ | refine E.q4 ?_ | refine E.tr ?_ | refine E.ap (fun _ _ => ?_) | refine E.b1 (fun _ _ => ?_) | refine E.b0 (fun _ _ => ?_) | refine E.bsn (fun _ _ => ?_) | refine E.mk (fun _ _ => ?_) | refine E.bxO (fun _ => ?_) | refine E.al (fun _ => ?_) | refine E.sbO ?_ | refine E.dq ?_ | refine E.ct ?_ | refine E.cf ?_ | refine E.cs (fun hh => ?_) (fun hh => ?_) | refine E.at_block_other rfl ?_)
    refine ri ?_
    rw [List.take_of_length_le hge] at hk2
    rw [posG_none (fun h => hk2 _ h rfl)]
theorem c_hasI {v : Value} {xs : List Int} {b : Int} (w : World) (hr : RdF w v xs := by exact rdA) : Calls Try.prog 70 #[v, .int .i64 b] w (Ret (fun _ : Unit => .bool (decide (b ∈ xs))) (fun _ => []) w) := by
  refine enter (args := _) Try.func70 rfl Try.ntmps70 (by simp) ?_
  repeat' (first | refine E.st ?_ | refine E.cl (h := fun _ w _ => c_idxI w) (k := ?_)  | refine E.q3 ?_ | refine E.q ?_ | refine E.qs ?_ | refine E.q2 ?_ | refine E.q4 ?_ | refine E.tr ?_ | refine E.ap (fun _ _ => ?_) | refine E.b1 (fun _ _ => ?_) | refine E.b0 (fun _ _ => ?_) | refine E.bsn (fun _ _ => ?_) | refine E.mk (fun _ _ => ?_) | refine E.bxO (fun _ => ?_) | refine E.al (fun _ => ?_) | refine E.sbO ?_ | refine E.dq ?_ | refine E.ct ?_ | refine E.cf ?_ | refine E.cs (fun hh => ?_) (fun hh => ?_) | refine E.at_block_other rfl ?_)
  refine rb ?_
  rw [decide_eq_decide]
  exact posG_neg
theorem trues_has {left : List Bool} : decide (true ∈ left) = decide (0 < trues left) := by
  rw [decide_eq_decide]
  unfold trues
  rw [List.countP_pos_iff]
  constructor
  · exact fun h => ⟨true, h, rfl⟩
  · rintro ⟨b, hb, h⟩
    simp only [id] at h
    subst h
    exact hb
theorem c_i_peel {v b : Value} {adj : List (List Nat)} {xs : List Sv} {left : List Bool} {n k : Nat} {w0 : World} {K : List Ck} (w : World) (hw : KOk w0 (ownF 4 b left :: K) w) (hA : AOk n adj) (hn : n ≤ 1000) (hl : left.length = n) (hk : k ≤ 1000) (hx : RdIn w0 K v xs) (hxl : xs.length = n) (hin : ∀ (i : Nat) x r, xs[i]? = some x → adj[i]? = some r → RdIn w0 K (.slice x.a x.n x.c) (zL r)) :
    Calls Try.prog 87 #[v, b, .int .i64 (k : Int)] w (RetK (fun _ : Unit => .bool (decide (0 < trues (peel adj k left)))) (fun _ => [ownF 4 b (peel adj k left)] ++ K) w0) := by
  have o1 := (hx w (hw.sub ks)).one
  have o3 := (RdF.ofK hw : RdF w b left).one
  refine enterK (args := _) hw Try.func87 rfl Try.ntmps87 (by simp) ?_
  repeat' (first | refine E.st ?_ | refine E.q3 ?_ | refine E.q ?_ | refine E.qs ?_ | refine E.q2 ?_ | refine E.q4 ?_ | refine E.tr ?_ | refine E.ap (fun _ _ => ?_) | refine E.b1 (fun _ _ => ?_) | refine E.b0 (fun _ _ => ?_) | refine E.bsn (fun _ _ => ?_) | refine E.mk (fun _ _ => ?_) | refine E.bxO (fun _ => ?_) | refine E.al (fun _ => ?_) | refine E.sbO ?_ | refine E.dq ?_ | refine E.ct ?_ | refine E.cf ?_ | refine E.cs (fun hh => ?_) (fun hh => ?_) | refine E.at_block_other rfl ?_)
  refine lq (fun z : List Bool × Bool => z.1.length = n ∧ (if z.2 = true then peel adj k z.1 else z.1) = peel adj k left) (fun z => [(7, .pl (.bool z.2))]) (fun z => [ownF 4 b z.1]) (fun z => 2 * trues z.1 + if z.2 = true then 1 else 0) (left, true) ⟨hl, rfl⟩ (fun z hz => ?_)
  obtain ⟨left', t⟩ := z
  obtain ⟨hl', hp⟩ := hz
  dsimp only at hl' hp ⊢
  cases t with
  | false =>
    repeat' (first | refine E.st ?_ | refine E.cl (h := fun _ w _ => c_hasB (xs := left') w) (k := ?_)  | refine E.q3 ?_ | refine E.q ?_ | refine E.qs ?_ | refine E.q2 ?_ | refine E.q4 ?_ | refine E.tr ?_ | refine E.ap (fun _ _ => ?_) | refine E.b1 (fun _ _ => ?_) | refine E.b0 (fun _ _ => ?_) | refine E.bsn (fun _ _ => ?_) | refine E.mk (fun _ _ => ?_) | refine E.bxO (fun _ => ?_) | refine E.al (fun _ => ?_) | refine E.sbO ?_ | refine E.dq ?_ | refine E.ct ?_ | refine E.cf ?_ | refine E.cs (fun hh => ?_) (fun hh => ?_) | refine E.at_block_other rfl ?_)
    have hp2 : left' = peel adj k left := hp
    refine r1K () (hv := ?_) (hK := KSub.ownF pk hp2 ?_)
    · rw [trues_has, hp2]
    · exact KSub.refl _
  | true =>
    obtain ⟨S, hS0, hSs, hSl, hSe⟩ := peel_walk adj k left'
    have htr := peelR_tr (adj := adj) (k := k) (left := left')
    have hps := peel_step (adj := adj) (k := k) (left := left')
    rw [if_pos rfl] at hp
    rw [hp, ← hSe] at hps
    rw [← hSe] at htr
    have hS02 : (S 0).2 = false := by rw [hS0]
    repeat' (first | refine E.st ?_ | refine E.q3 ?_ | refine E.q ?_ | refine E.qs ?_ | refine E.q2 ?_ | refine E.q4 ?_ | refine E.tr ?_ | refine E.ap (fun _ _ => ?_) | refine E.b1 (fun _ _ => ?_) | refine E.b0 (fun _ _ => ?_) | refine E.bsn (fun _ _ => ?_) | refine E.mk (fun _ _ => ?_) | refine E.bxO (fun _ => ?_) | refine E.al (fun _ => ?_) | refine E.sbO ?_ | refine E.dq ?_ | refine E.ct ?_ | refine E.cf ?_ | refine E.cs (fun hh => ?_) (fun hh => ?_) | refine E.at_block_other rfl ?_)
    refine lq (fun j : Nat => j ≤ xs.length) (fun j => [(12, .pl (.int .i64 (j : Int))), (7, .pl (.bool (S j).2))]) (fun j => [ownF 4 b (S j).1]) (fun j => xs.length - j) 0 (Nat.zero_le _) (fun j hj => ?_) (hK := Spl.ownF pk (by rw [hS0]) (Spl.nil _))
    have hlj := hSl j
    dsimp only [List.append_eq, List.nil_append, List.cons_append]
    rcases Nat.lt_or_ge j xs.length with hlt | hge
    · obtain ⟨x, hxj⟩ := get_lt hlt
      have hal := hA.1
      have hrw : adj[j]? = some (adj.getD j []) := getD_at (by omega)
      have hin2 := hin j x _ hxj hrw
      have hAr := hA.2 j _ hrw
      have hrl := row_len hAr.1 hAr.2 (by omega : j < n)
      have hbj : (S j).1[j]? = some ((S j).1.getD j false) := getD_at (by omega)
      have hst := hSs j
      unfold peelS at hst
      have hlen : (S j).1.length = n := by omega
      have hrlt : ∀ o ∈ adj.getD j [], o < (S j).1.length := fun o ho => by rw [hlen]; exact (hAr.1 o ho).1
      generalize (S j).1.getD j false = c at hbj hst
      generalize adj.getD j [] = row at *
      repeat' (first | refine E.st ?_ | refine E.cl (h := fun _ w hw => c_countStays (row := row) (left := (S j).1) w hrlt (by omega) (hin2.att hw) (RdF.ofK hw)) (k := ?_) | refine E.q3 ?_ | refine E.q ?_ | refine E.qs ?_ | refine E.q2 ?_ | refine E.q4 ?_ | refine E.tr ?_ | refine E.ap (fun _ _ => ?_) | refine E.b1 (fun _ _ => ?_) | refine E.b0 (fun _ _ => ?_) | refine E.bsn (fun _ _ => ?_) | refine E.mk (fun _ _ => ?_) | refine E.bxO (fun _ => ?_) | refine E.al (fun _ => ?_) | refine E.sbO ?_ | refine E.dq ?_ | refine E.ct ?_ | refine E.cf ?_ | refine E.cs (fun hh => ?_) (fun hh => ?_) | refine E.at_block_other rfl ?_)
      · rw [if_pos ⟨hh.1, by omega⟩] at hst
        have h1 : (S (j + 1)).2 = true := by rw [hst]
        exact rd (j + 1) hlt (hK := KSub.ownF pk (by rw [hst]) ks)
      · rw [if_neg (by
          rintro ⟨a, b⟩
          rcases hh with h | h
          · rw [a] at h; cases h
          · omega)] at hst
        have h1 : (S (j + 1)).2 = (S j).2 := by rw [hst]
        exact rd (j + 1) hlt (hK := KSub.ownF pk (by rw [hst]) ks)
    · repeat' (first | refine E.st ?_ | refine E.q3 ?_ | refine E.q ?_ | refine E.qs ?_ | refine E.q2 ?_ | refine E.q4 ?_ | refine E.tr ?_ | refine E.ap (fun _ _ => ?_) | refine E.b1 (fun _ _ => ?_) | refine E.b0 (fun _ _ => ?_) | refine E.bsn (fun _ _ => ?_) | refine E.mk (fun _ _ => ?_) | refine E.bxO (fun _ => ?_) | refine E.al (fun _ => ?_) | refine E.sbO ?_ | refine E.dq ?_ | refine E.ct ?_ | refine E.cf ?_ | refine E.cs (fun hh => ?_) (fun hh => ?_) | refine E.at_block_other rfl ?_)
      have hje : j = left'.length := by omega
      subst hje
      refine rd (α := List Bool × Bool) (S left'.length) ⟨by omega, hps.symm⟩ ?_
      rw [if_pos rfl]
      split
      · rename_i h
        have := htr.2 h
        omega
      · have := htr.1
        omega
end E
end Go.Proofs.Ytjdagbicjhmeeaa
