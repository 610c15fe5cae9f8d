/- A label's bytes, and a store, as the program makes them. -/
import Derived.Test.YtpiiapoafmnhhaaGreatM14
import Derived.Test.YtpiiapoafmnhhaaGreatM10
namespace Go.Proofs.YtpiiapoafmnhhaaGreat
namespace E
open Go Go.RowKit
set_option linter.unusedSimpArgs false
set_option linter.unusedVariables false
set_option maxHeartbeats 1000000
set_option maxRecDepth 10000
attribute [local irreducible] HC HL HQ HX HO At Y YV Opd Opds KnX Sl Ld Src GV RV Calls Code.wp eptr adr RdF ownF OneX HG LdC
theorem c_i_code {l n : Int} (w : World) (h : nok ⟨l, n⟩ = true) : Calls Tryz.prog 75 #[.agg #[.int .i64 l, .int .i64 n]] w (Ret (fun _ : Unit => .int .i64 (cd ⟨l, n⟩)) (fun _ => []) w) := by
  have := c_i_NodeCode (l := l) (n := n) w
  unfold code at this
  rw [if_pos h, ← cd_ok h] at this
  exact this
theorem c_i_PackRow {v : Value} {xs : List Int} (w : World) (hr : RdF w v xs := by exact rdA) (hl : xs.length ≤ 100000000 := by omega) : Calls Tryz.prog 148 #[v] w (Ret (fun _ : Unit => .string (bs (rowB xs))) (fun _ => []) w) := by
  have o1 := hr.one
  rcases Nat.lt_or_ge 127 xs.length with hbig | hsm
  · have e : rowB xs = [] := if_neg (fun h : up xs => by have := h.2.2; omega)
    rw [e]
    refine enter (args := _) Tryz.func148 rfl Tryz.ntmps148 (by simp) ?_
    repeat' (first | refine E.st ?_ | refine E.q3 ?_ | refine E.q ?_ | refine E.qs ?_ | refine E.q2 ?_ | refine E.q4 ?_ | refine E.tr ?_ | refine E.ap (fun _ _ => ?_) | refine E.b1 (fun _ _ => ?_) | refine E.b0 (fun _ _ => ?_) | refine E.bsn (fun _ _ => ?_) | refine E.mk (fun _ _ => ?_) | refine E.bxO (fun _ => ?_) | refine E.al (fun _ => ?_) | refine E.sbO ?_ | refine E.dq ?_ | refine E.ct ?_ | refine E.cf ?_ | refine E.cs (fun hh => ?_) (fun hh => ?_) | refine E.at_block_other rfl ?_)
    all_goals first
      | exact rv0 rfl
      | (exfalso; omega)
  · generalize hR : bs (rowB xs) = R
    refine enter (args := _) Tryz.func148 rfl Tryz.ntmps148 (by simp) ?_
    refine E.nl 5 (α := UInt8) ?_
    repeat' (first | refine E.st ?_ | refine E.ckq (h := fun w hw => c_appendNum (xs := []) (n := (xs.length : Int)) w hw (hl := by simp)) (k := fun z => E.wy z.2 (fun _ => ?_)) | refine E.q3 ?_ | refine E.q ?_ | refine E.qs ?_ | refine E.q2 ?_ | refine E.q4 ?_ | refine E.tr ?_ | refine E.ap (fun _ _ => ?_) | refine E.b1 (fun _ _ => ?_) | refine E.b0 (fun _ _ => ?_) | refine E.bsn (fun _ _ => ?_) | refine E.mk (fun _ _ => ?_) | refine E.bxO (fun _ => ?_) | refine E.al (fun _ => ?_) | refine E.sbO ?_ | refine E.dq ?_ | refine E.ct ?_ | refine E.cf ?_ | refine E.cs (fun hh => ?_) (fun hh => ?_) | refine E.at_block_other rfl ?_)
    all_goals first
      | (exfalso; omega)
      | skip
    refine lq (fun z : Nat × V1 => z.1 ≤ xs.length ∧ (∀ x ∈ xs.take z.1, 0 ≤ x ∧ x ≤ 16383) ∧ (xs.take z.1).Pairwise (· < ·)) (fun z => [(15, .pl (.int .i64 (z.1 : Int))), (4, .pl (.int .i64 (lastI (-1) xs z.1))), (3, .pl z.2.1)]) (fun z => [ownF 5 z.2.1 (b8 (numB (xs.length : Int) ++ gapB (-1) (xs.take z.1)))]) (fun z => xs.length - z.1) (0, z) ⟨Nat.zero_le _, by simp, by simp⟩ (fun s hs => ?_) (hK := by exact Spl.ownF pk (by simp [gapB]) (Spl.nil _))
    obtain ⟨k, ⟨v3, h3⟩⟩ := s
    obtain ⟨hk, hb, hp⟩ := hs
    dsimp only at hk hb hp h3 ⊢
    have hgl : (b8 (numB (xs.length : Int) ++ gapB (-1) (xs.take k))).length ≤ 1000 := by
      rw [b8_len, List.length_append]
      have := numB_le (xs.length : Int)
      have := gapB_le (-1) (xs.take k)
      rw [List.length_take] at this
      omega
    have hla0 : -1 ≤ lastI (-1) xs k ∧ lastI (-1) xs k ≤ 16383 := by
      rcases Nat.eq_zero_or_pos k with h0 | h0
      · subst h0; rw [lastI_zero]; omega
      · obtain ⟨y, hy⟩ := get_lt (show k - 1 < xs.length by omega)
        have := lastI_succ (last := -1) hy
        rw [show k - 1 + 1 = k from by omega] at this
        rw [this]
        have := hb y (by refine List.mem_of_getElem? (i := k - 1) ?_; rw [List.getElem?_take_of_lt (by omega)]; exact hy)
        omega
    rcases Nat.lt_or_ge k xs.length with hlt | hge
    · obtain ⟨x, hx⟩ := get_lt hlt
      by_cases hgood : lastI (-1) xs k < x ∧ x ≤ 16383
      · have hst : b8 (numB (xs.length : Int) ++ gapB (-1) (xs.take (k + 1))) = b8 (numB (xs.length : Int) ++ gapB (-1) (xs.take k)) ++ b8 (numB (x - lastI (-1) xs k - 1)) := by rw [gapB_step xs k (-1) x hx, ← List.append_assoc, b8_app]
        have hla := lastI_succ (last := -1) hx
        repeat' (first | refine E.st ?_ | refine E.ckq (h := fun w hw => c_appendNum (xs := b8 (numB (xs.length : Int) ++ gapB (-1) (xs.take k))) (n := x - lastI (-1) xs k - 1) w hw) (k := fun z => E.wy z.2 (fun _ => ?_)) | refine E.q3 ?_ | refine E.q ?_ | refine E.qs ?_ | refine E.q2 ?_ | refine E.q4 ?_ | refine E.tr ?_ | refine E.ap (fun _ _ => ?_) | refine E.b1 (fun _ _ => ?_) | refine E.b0 (fun _ _ => ?_) | refine E.bsn (fun _ _ => ?_) | refine E.mk (fun _ _ => ?_) | refine E.bxO (fun _ => ?_) | refine E.al (fun _ => ?_) | refine E.sbO ?_ | refine E.dq ?_ | refine E.ct ?_ | refine E.cf ?_ | refine E.cs (fun hh => ?_) (fun hh => ?_) | refine E.at_block_other rfl ?_)
        all_goals first
          | (refine rd (α := Nat × V1) (k + 1, z) ⟨hlt, all_step hb hx (by omega), ?_⟩ (by dsimp only; omega) (hF := ?_) (hK := KSub.ownF pk hst.symm ks)
             · dsimp only
               refine pw_step (fun a b c hab hbc => by omega) hp hx ?_
               rcases Nat.eq_zero_or_pos k with h0 | h0
               · exact Or.inl h0
               · obtain ⟨y, hy⟩ := get_lt (show k - 1 < xs.length by omega)
                 have := lastI_succ (last := -1) hy
                 rw [show k - 1 + 1 = k from by omega] at this
                 exact Or.inr ⟨y, hy, by omega⟩
             · rw [hla]; exact fs)
          | (exfalso; simp at hh; omega)
          | trace_state
      · have e : rowB xs = [] := if_neg (fun h : up xs => hgood ⟨by
            have h1 := h.2.1
            have hx0 := h.1 x (List.mem_of_getElem? hx)
            rcases Nat.eq_zero_or_pos k with h0 | h0
            · subst h0; rw [lastI_zero]; omega
            · obtain ⟨y, hy⟩ := get_lt (show k - 1 < xs.length by omega)
              have := lastI_succ (last := -1) hy
              rw [show k - 1 + 1 = k from by omega] at this
              rw [this]
              obtain ⟨i1, e1⟩ := List.getElem?_eq_some_iff.1 hy
              obtain ⟨i2, e2⟩ := List.getElem?_eq_some_iff.1 hx
              have := List.pairwise_iff_getElem.1 h1 (k - 1) k i1 i2 (by omega)
              rw [e1, e2] at this
              exact this, (h.1 x (List.mem_of_getElem? hx)).2⟩)
        rw [e] at hR
        subst hR
        repeat' (first | refine E.st ?_ | refine E.q3 ?_ | refine E.q ?_ | refine E.qs ?_ | refine E.q2 ?_ | refine E.q4 ?_ | refine E.tr ?_ | refine E.ap (fun _ _ => ?_) | refine E.b1 (fun _ _ => ?_) | refine E.b0 (fun _ _ => ?_) | refine E.bsn (fun _ _ => ?_) | refine E.mk (fun _ _ => ?_) | refine E.bxO (fun _ => ?_) | refine E.al (fun _ => ?_) | refine E.sbO ?_ | refine E.dq ?_ | refine E.ct ?_ | refine E.cf ?_ | refine E.cs (fun hh => ?_) (fun hh => ?_) | refine E.at_block_other rfl ?_)
        all_goals first
          | exact rv0 rfl
          | (exfalso; simp at hh; omega)
          | trace_state
    · rw [List.take_of_length_le hge] at hb hp hgl ⊢
      have e : rowB xs = numB (xs.length : Int) ++ gapB (-1) xs := if_pos ⟨hb, hp, hsm⟩
      rw [e, ← tx_b8] at hR
      subst hR
      repeat' (first | refine E.st ?_ | refine E.q3 ?_ | refine E.q ?_ | refine E.qs ?_ | refine E.q2 ?_ | refine E.q4 ?_ | refine E.tr ?_ | refine E.ap (fun _ _ => ?_) | refine E.b1 (fun _ _ => ?_) | refine E.b0 (fun _ _ => ?_) | refine E.bsn (fun _ _ => ?_) | refine E.mk (fun _ _ => ?_) | refine E.bxO (fun _ => ?_) | refine E.al (fun _ => ?_) | refine E.sbO ?_ | refine E.dq ?_ | refine E.ct ?_ | refine E.cf ?_ | refine E.cs (fun hh => ?_) (fun hh => ?_) | refine E.at_block_other rfl ?_)
      all_goals first
        | exact rv0 rfl
        | trace_state
theorem c_classEnds {v u : Value} {g : Gr} {a : Int} (w : World) (hg : g.ok) (hr : RdF w v g.ns := by exact rdA) (hq : RdF w u g.es := by exact rdA) :
    Calls Tryz.prog 147 #[.agg #[v, u], .int .i64 a] w (Ret (fun z : V1 => z.1) (fun z => [ownF 3 z.1 ((endN (onlyE g.es a)).map cd)]) w) := by
  have o1 := hr.one
  have o2 := hq.one
  have hel := hg.2.len
  have heok : ∀ e ∈ g.es, eok e = true := fun e he => (hg.2.1 e he).1
  refine enter (args := _) Tryz.func147 rfl Tryz.ntmps147 (by simp) ?_
  refine E.nl 3 (α := Int) ?_
  repeat' (first | refine E.st ?_ | refine E.q3 ?_ | refine E.q ?_ | refine E.qs ?_ | refine E.q2 ?_ | refine E.q4 ?_ | refine E.tr ?_ | refine E.ap (fun _ _ => ?_) | refine E.b1 (fun _ _ => ?_) | refine E.b0 (fun _ _ => ?_) | refine E.bsn (fun _ _ => ?_) | refine E.mk (fun _ _ => ?_) | refine E.bxO (fun _ => ?_) | refine E.al (fun _ => ?_) | refine E.sbO ?_ | refine E.dq ?_ | refine E.ct ?_ | refine E.cf ?_ | refine E.cs (fun hh => ?_) (fun hh => ?_) | refine E.at_block_other rfl ?_)
  refine lq (fun p : Nat × V1 => p.1 ≤ g.es.length) (fun p => [(11, .pl (.int .i64 (p.1 : Int))), (5, .pl p.2.1)]) (fun p => [ownF 3 p.2.1 ((g.es.take p.1).flatMap (endC a))]) (fun p => g.es.length - p.1) (0, ⟨.slice none 0 0, rfl⟩) (Nat.zero_le _) (fun p hp => ?_)
  obtain ⟨k, ⟨v5, h5⟩⟩ := p
  dsimp only at hp h5 ⊢
  have hcl := endC_len a (g.es.take k)
  have hcl2 : ((g.es.take k).flatMap (endC a)).length ≤ 1000 := by
    have : (g.es.take k).length ≤ g.es.length := by rw [List.length_take]; omega
    omega
  rcases Nat.lt_or_ge k g.es.length with hlt | hge
  · obtain ⟨⟨el, ⟨al, an⟩, ⟨bl, bn⟩⟩, hx⟩ := get_lt hlt
    have hep := eok_parts (heok _ (List.mem_of_getElem? hx))
    have ha1 : nok ⟨al, an⟩ = true := hep.2.1
    have ha2 : nok ⟨bl, bn⟩ = true := hep.2.2.1
    have hstep := flatMap_take (endC a) hx
    by_cases h1 : el = a
    · have hs1 : endC a ⟨el, ⟨al, an⟩, ⟨bl, bn⟩⟩ = [cd ⟨al, an⟩, cd ⟨bl, bn⟩] := if_pos h1
      rw [hs1] at hstep
      repeat' (first | refine E.st ?_ | refine E.dxo (i := 6) v5 [0, 1, 2, 4, 5, 3, 6, 7, 8, 9] ?_ | refine E.cl (h := fun _ w _ => c_i_code w ha1) (k := ?_) | refine E.cl (h := fun _ w _ => c_i_code w ha2) (k := ?_)  | refine E.q3 ?_ | refine E.q ?_ | refine E.qs ?_ | refine E.q2 ?_ | refine E.q4 ?_ | refine E.tr ?_ | refine E.ap (fun _ _ => ?_) | refine E.b1 (fun _ _ => ?_) | refine E.b0 (fun _ _ => ?_) | refine E.bsn (fun _ _ => ?_) | refine E.mk (fun _ _ => ?_) | refine E.bxO (fun _ => ?_) | refine E.al (fun _ => ?_) | refine E.sbO ?_ | refine E.dq ?_ | refine E.ct ?_ | refine E.cf ?_ | refine E.cs (fun hh => ?_) (fun hh => ?_) | refine E.at_block_other rfl ?_)
      all_goals first
        | exact rd (α := Nat × V1) (k + 1, ⟨_, by assumption⟩) hlt (hK := KSub.ownF pk hstep.symm ks)
        | (exfalso; simp_all; done)
        | trace_state
    · have hs1 : endC a ⟨el, ⟨al, an⟩, ⟨bl, bn⟩⟩ = [] := if_neg h1
      rw [hs1, List.append_nil] at hstep
      repeat' (first | refine E.st ?_ | refine E.q3 ?_ | refine E.q ?_ | refine E.qs ?_ | refine E.q2 ?_ | refine E.q4 ?_ | refine E.tr ?_ | refine E.ap (fun _ _ => ?_) | refine E.b1 (fun _ _ => ?_) | refine E.b0 (fun _ _ => ?_) | refine E.bsn (fun _ _ => ?_) | refine E.mk (fun _ _ => ?_) | refine E.bxO (fun _ => ?_) | refine E.al (fun _ => ?_) | refine E.sbO ?_ | refine E.dq ?_ | refine E.ct ?_ | refine E.cf ?_ | refine E.cs (fun hh => ?_) (fun hh => ?_) | refine E.at_block_other rfl ?_)
      all_goals first
        | exact rd (α := Nat × V1) (k + 1, ⟨v5, h5⟩) hlt (hK := KSub.ownF pk hstep.symm ks)
        | (exfalso; simp_all; done)
        | trace_state
  · rw [List.take_of_length_le hge] at hcl2 ⊢
    have hcmp := ends_eq heok a
    have hsl := srt_len (g.es.flatMap (endC a))
    repeat' (first | refine E.st ?_ | refine E.ckq (h := fun w hw => c_sortI w hw) (k := fun z => ?_) | refine E.ckq (h := fun w hw => c_compI w hw) (k := fun y => ?_) | refine E.q3 ?_ | refine E.q ?_ | refine E.qs ?_ | refine E.q2 ?_ | refine E.q4 ?_ | refine E.tr ?_ | refine E.ap (fun _ _ => ?_) | refine E.b1 (fun _ _ => ?_) | refine E.b0 (fun _ _ => ?_) | refine E.bsn (fun _ _ => ?_) | refine E.mk (fun _ _ => ?_) | refine E.bxO (fun _ => ?_) | refine E.al (fun _ => ?_) | refine E.sbO ?_ | refine E.dq ?_ | refine E.ct ?_ | refine E.cf ?_ | refine E.cs (fun hh => ?_) (fun hh => ?_) | refine E.at_block_other rfl ?_)
    rw [hcmp]
    exact r1 (α := V1) y
theorem c_classJoined {v u : Value} {g : Gr} {a l n : Int} (w : World) (hg : g.ok) (hn : nok ⟨l, n⟩ = true) (hr : RdF w v g.ns := by exact rdA) (hq : RdF w u g.es := by exact rdA) :
    Calls Tryz.prog 150 #[.agg #[v, u], .int .i64 a, .int .i64 (cd ⟨l, n⟩)] w (Ret (fun z : V1 => z.1) (fun z => [ownF 3 z.1 (jnL (onlyE g.es a) ⟨l, n⟩)]) w) := by
  have o1 := hr.one
  have o2 := hq.one
  have hel := hg.2.len
  have heok : ∀ e ∈ g.es, eok e = true := fun e he => (hg.2.1 e he).1
  refine enter (args := _) Tryz.func150 rfl Tryz.ntmps150 (by simp) ?_
  refine E.nl 3 (α := Int) ?_
  repeat' (first | refine E.st ?_ | refine E.q3 ?_ | refine E.q ?_ | refine E.qs ?_ | refine E.q2 ?_ | refine E.q4 ?_ | refine E.tr ?_ | refine E.ap (fun _ _ => ?_) | refine E.b1 (fun _ _ => ?_) | refine E.b0 (fun _ _ => ?_) | refine E.bsn (fun _ _ => ?_) | refine E.mk (fun _ _ => ?_) | refine E.bxO (fun _ => ?_) | refine E.al (fun _ => ?_) | refine E.sbO ?_ | refine E.dq ?_ | refine E.ct ?_ | refine E.cf ?_ | refine E.cs (fun hh => ?_) (fun hh => ?_) | refine E.at_block_other rfl ?_)
  refine lq (fun p : Nat × V1 => p.1 ≤ g.es.length) (fun p => [(13, .pl (.int .i64 (p.1 : Int))), (7, .pl p.2.1)]) (fun p => [ownF 3 p.2.1 ((g.es.take p.1).flatMap (joinC a ⟨l, n⟩))]) (fun p => g.es.length - p.1) (0, ⟨.slice none 0 0, rfl⟩) (Nat.zero_le _) (fun p hp => ?_)
  obtain ⟨k, ⟨v7, h7⟩⟩ := p
  dsimp only at hp h7 ⊢
  have hcl := joinC_len a ⟨l, n⟩ (g.es.take k)
  have hcl2 : ((g.es.take k).flatMap (joinC a ⟨l, n⟩)).length ≤ 1000 := by
    have : (g.es.take k).length ≤ g.es.length := by rw [List.length_take]; omega
    omega
  rcases Nat.lt_or_ge k g.es.length with hlt | hge
  · obtain ⟨⟨el, ⟨al, an⟩, ⟨bl, bn⟩⟩, hx⟩ := get_lt hlt
    have hep := eok_parts (heok _ (List.mem_of_getElem? hx))
    have ha1 : nok ⟨al, an⟩ = true := hep.2.1
    have ha2 : nok ⟨bl, bn⟩ = true := hep.2.2.1
    have hstep := flatMap_take (joinC a ⟨l, n⟩) hx
    by_cases h1 : el = a
    · by_cases h2 : cd ⟨l, n⟩ = cd ⟨al, an⟩
      · have hs1 : joinC a ⟨l, n⟩ ⟨el, ⟨al, an⟩, ⟨bl, bn⟩⟩ = [cd ⟨bl, bn⟩] := by unfold joinC; rw [if_pos h1, if_pos h2]
        rw [hs1] at hstep
        repeat' (first | refine E.st ?_ | refine E.cl (h := fun _ w _ => c_i_code w ha1) (k := ?_) | refine E.cl (h := fun _ w _ => c_i_code w ha2) (k := ?_)  | refine E.q3 ?_ | refine E.q ?_ | refine E.qs ?_ | refine E.q2 ?_ | refine E.q4 ?_ | refine E.tr ?_ | refine E.ap (fun _ _ => ?_) | refine E.b1 (fun _ _ => ?_) | refine E.b0 (fun _ _ => ?_) | refine E.bsn (fun _ _ => ?_) | refine E.mk (fun _ _ => ?_) | refine E.bxO (fun _ => ?_) | refine E.al (fun _ => ?_) | refine E.sbO ?_ | refine E.dq ?_ | refine E.ct ?_ | refine E.cf ?_ | refine E.cs (fun hh => ?_) (fun hh => ?_) | refine E.at_block_other rfl ?_)
        all_goals first
          | exact rd (α := Nat × V1) (k + 1, ⟨_, by assumption⟩) hlt (hK := KSub.ownF pk hstep.symm ks)
          | (exfalso; simp_all; done)
          | trace_state
      · by_cases h3 : cd ⟨l, n⟩ = cd ⟨bl, bn⟩
        · have hs1 : joinC a ⟨l, n⟩ ⟨el, ⟨al, an⟩, ⟨bl, bn⟩⟩ = [cd ⟨al, an⟩] := by unfold joinC; rw [if_pos h1, if_neg h2, if_pos h3]
          rw [hs1] at hstep
          repeat' (first | refine E.st ?_ | refine E.cl (h := fun _ w _ => c_i_code w ha1) (k := ?_) | refine E.cl (h := fun _ w _ => c_i_code w ha2) (k := ?_)  | refine E.q3 ?_ | refine E.q ?_ | refine E.qs ?_ | refine E.q2 ?_ | refine E.q4 ?_ | refine E.tr ?_ | refine E.ap (fun _ _ => ?_) | refine E.b1 (fun _ _ => ?_) | refine E.b0 (fun _ _ => ?_) | refine E.bsn (fun _ _ => ?_) | refine E.mk (fun _ _ => ?_) | refine E.bxO (fun _ => ?_) | refine E.al (fun _ => ?_) | refine E.sbO ?_ | refine E.dq ?_ | refine E.ct ?_ | refine E.cf ?_ | refine E.cs (fun hh => ?_) (fun hh => ?_) | refine E.at_block_other rfl ?_)
          all_goals first
            | exact rd (α := Nat × V1) (k + 1, ⟨_, by assumption⟩) hlt (hK := KSub.ownF pk hstep.symm ks)
            | (exfalso; simp_all; done)
            | trace_state
        · have hs1 : joinC a ⟨l, n⟩ ⟨el, ⟨al, an⟩, ⟨bl, bn⟩⟩ = [] := by unfold joinC; rw [if_pos h1, if_neg h2, if_neg h3]
          rw [hs1, List.append_nil] at hstep
          repeat' (first | refine E.st ?_ | refine E.cl (h := fun _ w _ => c_i_code w ha1) (k := ?_) | refine E.cl (h := fun _ w _ => c_i_code w ha2) (k := ?_)  | refine E.q3 ?_ | refine E.q ?_ | refine E.qs ?_ | refine E.q2 ?_ | refine E.q4 ?_ | refine E.tr ?_ | refine E.ap (fun _ _ => ?_) | refine E.b1 (fun _ _ => ?_) | refine E.b0 (fun _ _ => ?_) | refine E.bsn (fun _ _ => ?_) | refine E.mk (fun _ _ => ?_) | refine E.bxO (fun _ => ?_) | refine E.al (fun _ => ?_) | refine E.sbO ?_ | refine E.dq ?_ | refine E.ct ?_ | refine E.cf ?_ | refine E.cs (fun hh => ?_) (fun hh => ?_) | refine E.at_block_other rfl ?_)
          all_goals first
            | exact rd (α := Nat × V1) (k + 1, ⟨v7, h7⟩) hlt (hK := KSub.ownF pk hstep.symm ks)
            | (exfalso; simp_all; done)
            | trace_state
    · have hs1 : joinC a ⟨l, n⟩ ⟨el, ⟨al, an⟩, ⟨bl, bn⟩⟩ = [] := if_neg h1
      rw [hs1, List.append_nil] at hstep
      repeat' (first | refine E.st ?_ | refine E.q3 ?_ | refine E.q ?_ | refine E.qs ?_ | refine E.q2 ?_ | refine E.q4 ?_ | refine E.tr ?_ | refine E.ap (fun _ _ => ?_) | refine E.b1 (fun _ _ => ?_) | refine E.b0 (fun _ _ => ?_) | refine E.bsn (fun _ _ => ?_) | refine E.mk (fun _ _ => ?_) | refine E.bxO (fun _ => ?_) | refine E.al (fun _ => ?_) | refine E.sbO ?_ | refine E.dq ?_ | refine E.ct ?_ | refine E.cf ?_ | refine E.cs (fun hh => ?_) (fun hh => ?_) | refine E.at_block_other rfl ?_)
      all_goals first
        | exact rd (α := Nat × V1) (k + 1, ⟨v7, h7⟩) hlt (hK := KSub.ownF pk hstep.symm ks)
        | (exfalso; simp_all; done)
        | trace_state
  · rw [List.take_of_length_le hge] at hcl2 ⊢
    have hcmp := joined_eq hg a hn
    repeat' (first | refine E.st ?_ | refine E.ckq (h := fun w hw => c_sortI w hw) (k := fun z => ?_) | refine E.q3 ?_ | refine E.q ?_ | refine E.qs ?_ | refine E.q2 ?_ | refine E.q4 ?_ | refine E.tr ?_ | refine E.ap (fun _ _ => ?_) | refine E.b1 (fun _ _ => ?_) | refine E.b0 (fun _ _ => ?_) | refine E.bsn (fun _ _ => ?_) | refine E.mk (fun _ _ => ?_) | refine E.bxO (fun _ => ?_) | refine E.al (fun _ => ?_) | refine E.sbO ?_ | refine E.dq ?_ | refine E.ct ?_ | refine E.cf ?_ | refine E.cs (fun hh => ?_) (fun hh => ?_) | refine E.at_block_other rfl ?_)
    rw [hcmp]
    exact r1 (α := V1) ⟨v7, h7⟩
end E
end Go.Proofs.YtpiiapoafmnhhaaGreat
