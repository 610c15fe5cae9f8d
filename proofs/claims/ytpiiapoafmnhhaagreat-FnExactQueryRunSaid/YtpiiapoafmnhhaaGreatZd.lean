/- A label's bytes, and a store, as the program makes them. -/
import Derived.Test.YtpiiapoafmnhhaaGreatZc
namespace Go.Proofs.YtpiiapoafmnhhaaGreat
namespace E
open Go Go.RowKit
set_option linter.unusedSimpArgs false
set_option linter.unusedVariables false
set_option maxHeartbeats 1000000
set_option maxRecDepth 10000
attribute [local irreducible] HC HL HQ HX HO At Y YV Opd Opds KnX Sl Ld Src GV RV Calls Code.wp eptr adr RdF ownF OneX HG LdC
def segI (g : Gr) (a : Int) : List Nat := if lok a = true ∧ gok g.ns g.es = true then segB g a else []
theorem c_i_SegOf {v u : Value} {g : Gr} {a : Int} (w : World) (hr : RdF w v g.ns := by exact rdA) (hq : RdF w u g.es := by exact rdA) : Calls Tryz.prog 91 #[.agg #[v, u], .int .i64 a] w (Ret (fun _ : Unit => .string (bs (segI g a))) (fun _ => []) w) := by
  have o1 := hr.one
  have o2 := hq.one
  cases hla : lok a with
  | false =>
    have e : segI g a = [] := if_neg (fun h => by rw [hla] at h; cases h.1)
    rw [e]
    have hL : ∀ w, Calls Tryz.prog 34 #[.int .i64 a] w (Ret (fun _ : Unit => .bool false) (fun _ => []) w) := fun w => by rw [← hla]; exact c_i_LabelOk w
    refine enter (args := _) Tryz.func91 rfl Tryz.ntmps91 (by simp) ?_
    repeat' (first | refine E.st ?_ | refine E.sk ?_ | refine E.cl (h := fun _ w hw => hL w) (k := ?_) | refine E.q3 ?_ | refine E.q ?_ | refine E.qs ?_ | refine E.q2 ?_ | refine E.q4 ?_ | refine E.tr ?_ | refine E.ap (fun _ _ => ?_) | refine E.b1 (fun _ _ => ?_) | refine E.b0 (fun _ _ => ?_) | refine E.bsn (fun _ _ => ?_) | refine E.mk (fun _ _ => ?_) | refine E.bxO (fun _ => ?_) | refine E.al (fun _ => ?_) | refine E.sbO ?_ | refine E.dq ?_ | refine E.ct ?_ | refine E.cf ?_ | refine E.cs (fun hh => ?_) (fun hh => ?_) | refine E.at_block_other rfl ?_)
    exact rv0 rfl
  | true =>
    have hL : ∀ w, Calls Tryz.prog 34 #[.int .i64 a] w (Ret (fun _ : Unit => .bool true) (fun _ => []) w) := fun w => by rw [← hla]; exact c_i_LabelOk w
    cases hgk : gok g.ns g.es with
    | false =>
      have e : segI g a = [] := if_neg (fun h => by rw [hgk] at h; cases h.2)
      rw [e]
      refine enter (args := _) Tryz.func91 rfl Tryz.ntmps91 (by simp) ?_
      repeat' (first | refine E.st ?_ | refine E.ug ?_ | refine E.cl (h := fun _ w hw => hL w) (k := ?_) | refine E.cl (h := fun _ w _ => c_i_GraphOk_f w hgk) (k := ?_)  | refine E.q3 ?_ | refine E.q ?_ | refine E.qs ?_ | refine E.q2 ?_ | refine E.q4 ?_ | refine E.tr ?_ | refine E.ap (fun _ _ => ?_) | refine E.b1 (fun _ _ => ?_) | refine E.b0 (fun _ _ => ?_) | refine E.bsn (fun _ _ => ?_) | refine E.mk (fun _ _ => ?_) | refine E.bxO (fun _ => ?_) | refine E.al (fun _ => ?_) | refine E.sbO ?_ | refine E.dq ?_ | refine E.ct ?_ | refine E.cf ?_ | refine E.cs (fun hh => ?_) (fun hh => ?_) | refine E.at_block_other rfl ?_)
      exact rv0 rfl
    | true =>
      have hg : g.ok := Gr.ok_iff.2 hgk
      have e : segI g a = segB g a := if_pos ⟨hla, hgk⟩
      rw [e]
      have hnl := hg.1.len
      have hel := hg.2.len
      have heok : ∀ e ∈ g.es, eok e = true := fun e he => (hg.2.1 e he).1
      have hoe : (onlyE g.es a).length ≤ g.es.length := List.length_filter_le _ _
      have hen := len_endN (onlyE g.es a)
      have hnn := numsL_len2 g.ns a g.ns.length
      rw [List.take_length] at hnn
      have hml : ((endN (onlyE g.es a)).map cd).length = (endN (onlyE g.es a)).length := List.length_map _
      refine enter (args := _) Tryz.func91 rfl Tryz.ntmps91 (by simp) ?_
      refine E.nl 3 (α := Int) ?_
      repeat' (first | refine E.st ?_ | refine E.ug ?_ | refine E.cl (h := fun _ w hw => hL w) (k := ?_) | refine E.cl (h := fun _ w _ => c_i_GraphOk_t w hgk) (k := ?_)  | refine E.q3 ?_ | refine E.q ?_ | refine E.qs ?_ | refine E.q2 ?_ | refine E.q4 ?_ | refine E.tr ?_ | refine E.ap (fun _ _ => ?_) | refine E.b1 (fun _ _ => ?_) | refine E.b0 (fun _ _ => ?_) | refine E.bsn (fun _ _ => ?_) | refine E.mk (fun _ _ => ?_) | refine E.bxO (fun _ => ?_) | refine E.al (fun _ => ?_) | refine E.sbO ?_ | refine E.dq ?_ | refine E.ct ?_ | refine E.cf ?_ | refine E.cs (fun hh => ?_) (fun hh => ?_) | refine E.at_block_other rfl ?_)
      refine lq (fun p : Nat × V1 => p.1 ≤ g.ns.length) (fun p => [(23, .pl (.int .i64 (p.1 : Int))), (5, .pl p.2.1)]) (fun p => [ownF 3 p.2.1 (numsL (g.ns.take p.1) a)]) (fun p => g.ns.length - p.1) (0, ⟨.slice none 0 0, rfl⟩) (Nat.zero_le _) (fun p hp => ?_)
      obtain ⟨k, ⟨v5, h5⟩⟩ := p
      dsimp only at hp h5 ⊢
      have hnk := numsL_len2 g.ns a k
      rcases Nat.lt_or_ge k g.ns.length with hlt | hge
      · obtain ⟨⟨xl, xn⟩, hx⟩ := get_lt hlt
        have hst := numsL_step (a := a) hx
        by_cases hla : xl = a
        · have hst' : numsL (g.ns.take (k + 1)) a = numsL (g.ns.take k) a ++ [xn] := by rw [hst, if_pos hla]
          repeat' (first | refine E.st ?_ | refine E.q3 ?_ | refine E.q ?_ | refine E.qs ?_ | refine E.q2 ?_ | refine E.q4 ?_ | refine E.tr ?_ | refine E.ap (fun _ _ => ?_) | refine E.b1 (fun _ _ => ?_) | refine E.b0 (fun _ _ => ?_) | refine E.bsn (fun _ _ => ?_) | refine E.mk (fun _ _ => ?_) | refine E.bxO (fun _ => ?_) | refine E.al (fun _ => ?_) | refine E.sbO ?_ | refine E.dq ?_ | refine E.ct ?_ | refine E.cf ?_ | refine E.cs (fun hh => ?_) (fun hh => ?_) | refine E.at_block_other rfl ?_)
          exact rd (α := Nat × V1) (k + 1, ⟨_, by assumption⟩) hlt (hK := KSub.ownF pk hst'.symm ks)
        · have hst' : numsL (g.ns.take (k + 1)) a = numsL (g.ns.take k) a := by rw [hst, if_neg hla, List.append_nil]
          repeat' (first | refine E.st ?_ | refine E.q3 ?_ | refine E.q ?_ | refine E.qs ?_ | refine E.q2 ?_ | refine E.q4 ?_ | refine E.tr ?_ | refine E.ap (fun _ _ => ?_) | refine E.b1 (fun _ _ => ?_) | refine E.b0 (fun _ _ => ?_) | refine E.bsn (fun _ _ => ?_) | refine E.mk (fun _ _ => ?_) | refine E.bxO (fun _ => ?_) | refine E.al (fun _ => ?_) | refine E.sbO ?_ | refine E.dq ?_ | refine E.ct ?_ | refine E.cf ?_ | refine E.cs (fun hh => ?_) (fun hh => ?_) | refine E.at_block_other rfl ?_)
          exact rd (α := Nat × V1) (k + 1, ⟨v5, h5⟩) hlt (hK := KSub.ownF pk hst'.symm ks)
      · rw [List.take_of_length_le hge]
        by_cases hem : numsL g.ns a = [] ∧ endN (onlyE g.es a) = []
        · have hsb : segB g a = [] := if_pos hem
          have z1 : (numsL g.ns a).length = 0 := by rw [hem.1]; rfl
          have z2 : ((endN (onlyE g.es a)).map cd).length = 0 := by rw [hem.2]; rfl
          rw [hsb]
          repeat' (first | refine E.st ?_ | refine E.ug ?_ | refine E.cm (h := fun w hw => c_classEnds (a := a) w hg (hr.now hw) (hq.now hw)) (k := fun z => E.wy z.2 (fun _ => ?_)) | refine E.q3 ?_ | refine E.q ?_ | refine E.qs ?_ | refine E.q2 ?_ | refine E.q4 ?_ | refine E.tr ?_ | refine E.ap (fun _ _ => ?_) | refine E.b1 (fun _ _ => ?_) | refine E.b0 (fun _ _ => ?_) | refine E.bsn (fun _ _ => ?_) | refine E.mk (fun _ _ => ?_) | refine E.bxO (fun _ => ?_) | refine E.al (fun _ => ?_) | refine E.sbO ?_ | refine E.dq ?_ | refine E.ct ?_ | refine E.cf ?_ | refine E.cs (fun hh => ?_) (fun hh => ?_) | refine E.at_block_other rfl ?_)
          all_goals first
            | exact rv0 rfl
            | (exfalso; simp at hh; omega)
            | (exfalso; simp_all; done)
            | trace_state
        · have hsb : segB g a = rowB (numsL g.ns a) ++ (numB ((endN (onlyE g.es a)).length : Nat) ++ (endN (onlyE g.es a)).flatMap (rowBy (onlyE g.es a))) := if_neg hem
          have z3 : (numsL g.ns a).length ≠ 0 ∨ ((endN (onlyE g.es a)).map cd).length ≠ 0 := by
            rw [hml]
            by_cases h1 : numsL g.ns a = []
            · right; intro h2; exact hem ⟨h1, List.eq_nil_of_length_eq_zero h2⟩
            · left; intro h2; exact h1 (List.eq_nil_of_length_eq_zero h2)
          have b1 : (rowB (numsL g.ns a)).length ≤ 10000 := by have := rowB_le (numsL g.ns a); omega
          have b1' : (b8 (rowB (numsL g.ns a))).length ≤ 10000 := by rw [b8_len]; exact b1
          have hoeok : ∀ e ∈ onlyE g.es a, eok e = true := fun e he => heok e (List.mem_filter.1 he).1
          repeat' (first | refine E.st ?_ | refine E.cm (h := fun w hw => c_classEnds (a := a) w hg (hr.now hw) (hq.now hw)) (k := fun z => E.wy z.2 (fun _ => ?_)) | refine E.cl (h := fun _ w _ => c_i_PackRow (xs := numsL g.ns a) w) (k := ?_) | refine E.s2b (fun _ _ => ?_) | refine E.ckq (h := fun w hw => c_appendNumZ (xs := b8 (rowB (numsL g.ns a))) (n := (((endN (onlyE g.es a)).map cd).length : Int)) w hw) (k := fun y => ?_) | refine E.q3 ?_ | refine E.q ?_ | refine E.qs ?_ | refine E.q2 ?_ | refine E.q4 ?_ | refine E.tr ?_ | refine E.ap (fun _ _ => ?_) | refine E.b1 (fun _ _ => ?_) | refine E.b0 (fun _ _ => ?_) | refine E.bsn (fun _ _ => ?_) | refine E.mk (fun _ _ => ?_) | refine E.bxO (fun _ => ?_) | refine E.al (fun _ => ?_) | refine E.sbO ?_ | refine E.dq ?_ | refine E.ct ?_ | refine E.cf ?_ | refine E.cs (fun hh => ?_) (fun hh => ?_) | refine E.at_block_other rfl ?_)
          all_goals first
            | (exfalso; simp at hh; omega)
            | (exfalso; simp_all; done)
            | skip
          refine lq (fun p : Nat × Nat × Nat => p.1 ≤ (endN (onlyE g.es a)).length) (fun p => [(57, .pl (.int .i64 (p.1 : Int))), (9, .pl (.slice (some ⟨p.2.1, 0, none⟩) (b8 (rowB (numsL g.ns a) ++ (numB ((((endN (onlyE g.es a)).map cd).length : Nat) : Int) ++ ((endN (onlyE g.es a)).take p.1).flatMap (rowBy (onlyE g.es a))))).length p.2.2))]) (fun p => [ownZ 5 p.2.1 p.2.2 (b8 (rowB (numsL g.ns a) ++ (numB ((((endN (onlyE g.es a)).map cd).length : Nat) : Int) ++ ((endN (onlyE g.es a)).take p.1).flatMap (rowBy (onlyE g.es a)))))]) (fun p => (endN (onlyE g.es a)).length - p.1) (0, y.1, y.2) (Nat.zero_le _) (fun p hp => ?_) (hF := by simp only [List.take_zero, List.flatMap_nil, List.append_nil, b8_app]; exact fs) (hK := by simp only [List.take_zero, List.flatMap_nil, List.append_nil, b8_app]; exact sp)
          obtain ⟨k, gz, cz⟩ := p
          dsimp only at hp ⊢
          have hfl := rowsBy_len (onlyE g.es a) (by omega) ((endN (onlyE g.es a)).take k)
          have htl : ((endN (onlyE g.es a)).take k).length ≤ k := List.length_take_le _ _
          have b2 := numB_le ((((endN (onlyE g.es a)).map cd).length : Nat) : Int)
          have b3 : (b8 (rowB (numsL g.ns a) ++ (numB ((((endN (onlyE g.es a)).map cd).length : Nat) : Int) ++ ((endN (onlyE g.es a)).take k).flatMap (rowBy (onlyE g.es a))))).length ≤ 1000000 := by
            rw [b8_len, List.length_append, List.length_append]
            omega
          rcases Nat.lt_or_ge k (endN (onlyE g.es a)).length with hlt | hge
          · obtain ⟨⟨xl, xn⟩, hx⟩ := get_lt hlt
            have hx' : ((endN (onlyE g.es a)).map cd)[k]? = some (cd ⟨xl, xn⟩) := by rw [List.getElem?_map, hx]; rfl
            have hxn : nok ⟨xl, xn⟩ = true := (ord_endN hoeok).1 _ (List.mem_of_getElem? hx)
            have hcb := cd_bd hxn
            have hjl : (jnL (onlyE g.es a) ⟨xl, xn⟩).length ≤ 1000 := by
              unfold jnL
              have := near_len (onlyE g.es a) ⟨xl, xn⟩
              rw [List.length_map]
              omega
            have b5 : (rowB (jnL (onlyE g.es a) ⟨xl, xn⟩)).length ≤ 3000 := by have := rowB_le (jnL (onlyE g.es a) ⟨xl, xn⟩); omega
            have b6 := numB_le (cd ⟨xl, xn⟩)
            have hst : b8 (rowB (numsL g.ns a) ++ (numB ((((endN (onlyE g.es a)).map cd).length : Nat) : Int) ++ ((endN (onlyE g.es a)).take (k + 1)).flatMap (rowBy (onlyE g.es a)))) = (b8 (rowB (numsL g.ns a) ++ (numB ((((endN (onlyE g.es a)).map cd).length : Nat) : Int) ++ ((endN (onlyE g.es a)).take k).flatMap (rowBy (onlyE g.es a)))) ++ b8 (numB (cd ⟨xl, xn⟩))) ++ b8 (rowB (jnL (onlyE g.es a) ⟨xl, xn⟩)) := by
              rw [flat_step hx, ← b8_app, ← b8_app]
              unfold rowBy
              simp only [List.append_assoc]
            generalize hX : b8 (rowB (numsL g.ns a) ++ (numB ((((endN (onlyE g.es a)).map cd).length : Nat) : Int) ++ ((endN (onlyE g.es a)).take k).flatMap (rowBy (onlyE g.es a)))) = X at *
            have b7 : (X ++ b8 (numB (cd ⟨xl, xn⟩))).length ≤ 1000010 := by rw [List.length_append, b8_len]; omega
            repeat' (first | refine E.st ?_ | refine E.ckq (h := fun w hw => c_appendNumZ (xs := X) (n := cd ⟨xl, xn⟩) w hw) (k := fun y => ?_) | refine E.cm (h := fun w hw => c_classJoined (a := a) w hg hxn (hr.now hw) (hq.now hw)) (k := fun z => E.wy z.2 (fun _ => ?_)) | refine E.cl (h := fun _ w _ => c_i_PackRow (xs := jnL (onlyE g.es a) ⟨xl, xn⟩) w) (k := ?_) | refine E.apS (fun _ _ => ?_) | refine E.q3 ?_ | refine E.q ?_ | refine E.qs ?_ | refine E.q2 ?_ | refine E.q4 ?_ | refine E.tr ?_ | refine E.ap (fun _ _ => ?_) | refine E.b1 (fun _ _ => ?_) | refine E.b0 (fun _ _ => ?_) | refine E.bsn (fun _ _ => ?_) | refine E.mk (fun _ _ => ?_) | refine E.bxO (fun _ => ?_) | refine E.al (fun _ => ?_) | refine E.sbO ?_ | refine E.dq ?_ | refine E.ct ?_ | refine E.cf ?_ | refine E.cs (fun hh => ?_) (fun hh => ?_) | refine E.at_block_other rfl ?_)
            all_goals first
              | exact rd (α := Nat × Nat × Nat) (k + 1, _, _) hlt (hF := by rw [hst]; exact fs) (hK := by rw [hst]; exact ks)
              | trace_state
          · rw [List.take_of_length_le hge]
            have e2 : tx (b8 (rowB (numsL g.ns a) ++ (numB ((((endN (onlyE g.es a)).map cd).length : Nat) : Int) ++ (endN (onlyE g.es a)).flatMap (rowBy (onlyE g.es a))))) = bs (segB g a) := by rw [hsb, hml, tx_b8]
            repeat' (first | refine E.st ?_ | refine E.q (hy := a_b2s (hs := RdIn.z)) ?_ | refine E.q3 ?_ | refine E.q ?_ | refine E.qs ?_ | refine E.q2 ?_ | refine E.q4 ?_ | refine E.tr ?_ | refine E.ap (fun _ _ => ?_) | refine E.b1 (fun _ _ => ?_) | refine E.b0 (fun _ _ => ?_) | refine E.bsn (fun _ _ => ?_) | refine E.mk (fun _ _ => ?_) | refine E.bxO (fun _ => ?_) | refine E.al (fun _ => ?_) | refine E.sbO ?_ | refine E.dq ?_ | refine E.ct ?_ | refine E.cf ?_ | refine E.cs (fun hh => ?_) (fun hh => ?_) | refine E.at_block_other rfl ?_)
            exact rv0 (by rw [← e2])
def segOfI (g : Gr) (a : Int) : Option Sg := if segI g a = [] then none else some ⟨a, bs (segI g a)⟩
def storeI (g : Gr) : List Sg := labs.filterMap (segOfI g)
theorem storeI_ok {g : Gr} (hg : g.ok) : storeI g = storeL g := by
  unfold storeI storeL
  refine filterMap_congr (fun a ha => ?_)
  have e : segI g a = segB g a := if_pos ⟨lok_iff.2 (mem_labs.1 ha), Gr.ok_iff.1 hg⟩
  unfold segOfI segOf
  rw [e]
theorem storeI_no {g : Gr} (hg : gok g.ns g.es = false) : storeI g = [] := by
  unfold storeI
  rw [List.filterMap_eq_nil_iff]
  intro a _
  have e : segI g a = [] := if_neg (fun h => by rw [hg] at h; cases h.2)
  exact if_pos e
theorem c_i_StoreOf {v u : Value} {g : Gr} (w : World) (hr : RdF w v g.ns := by exact rdA) (hq : RdF w u g.es := by exact rdA) : Calls Tryz.prog 30 #[.agg #[v, u]] w (Ret (fun s : Sv => .slice s.a s.n s.c) (fun s => [ownF 65 (.slice s.a s.n s.c) (storeI g)]) w) := by
  refine calls_sv ?_
  have o1 := hr.one
  have o2 := hq.one
  refine enter (args := _) Tryz.func30 rfl Tryz.ntmps30 (by simp) ?_
  refine E.nl 65 (α := Sg) ?_
  repeat' (first | refine E.st ?_ | refine E.q3 ?_ | refine E.q ?_ | refine E.qs ?_ | refine E.q2 ?_ | refine E.q4 ?_ | refine E.tr ?_ | refine E.ap (fun _ _ => ?_) | refine E.b1 (fun _ _ => ?_) | refine E.b0 (fun _ _ => ?_) | refine E.bsn (fun _ _ => ?_) | refine E.mk (fun _ _ => ?_) | refine E.bxO (fun _ => ?_) | refine E.al (fun _ => ?_) | refine E.sbO ?_ | refine E.dq ?_ | refine E.ct ?_ | refine E.cf ?_ | refine E.cs (fun hh => ?_) (fun hh => ?_) | refine E.at_block_other rfl ?_)
  refine lq (fun p : Nat × V1 => p.1 ≤ 8) (fun p => [(4, .pl (.int .i64 (p.1 : Int))), (3, .pl p.2.1)]) (fun p => [ownF 65 p.2.1 ((labs.take p.1).filterMap (segOfI g))]) (fun p => 8 - p.1) (0, ⟨.slice none 0 0, rfl⟩) (Nat.zero_le _) (fun p hp => ?_)
  obtain ⟨k, ⟨v3, h3⟩⟩ := p
  dsimp only at hp h3 ⊢
  have hfl : ((labs.take k).filterMap (segOfI g)).length ≤ 8 := by
    refine Nat.le_trans (List.length_filterMap_le _ _) ?_
    rw [List.length_take]
    have : labs.length = 8 := rfl
    omega
  rcases Nat.lt_or_ge k 8 with hlt | hge
  · have hlt' := labs_take hlt
    by_cases hsb : segI g (k : Int) = []
    · have hst : (labs.take (k + 1)).filterMap (segOfI g) = (labs.take k).filterMap (segOfI g) := by
        rw [hlt', List.filterMap_append]
        have : segOfI g (k : Int) = none := if_pos hsb
        simp [this]
      have hbs : bs (segI g (k : Int)) = ⟨#[]⟩ := bs_nil.2 hsb
      repeat' (first | refine E.st ?_ | refine E.cl (h := fun _ w hw => c_i_SegOf (g := g) w (hr.now hw) (hq.now hw)) (k := ?_) | refine E.q3 ?_ | refine E.q ?_ | refine E.qs ?_ | refine E.q2 ?_ | refine E.q4 ?_ | refine E.tr ?_ | refine E.ap (fun _ _ => ?_) | refine E.b1 (fun _ _ => ?_) | refine E.b0 (fun _ _ => ?_) | refine E.bsn (fun _ _ => ?_) | refine E.mk (fun _ _ => ?_) | refine E.bxO (fun _ => ?_) | refine E.al (fun _ => ?_) | refine E.sbO ?_ | refine E.dq ?_ | refine E.ct ?_ | refine E.cf ?_ | refine E.cs (fun hh => ?_) (fun hh => ?_) | refine E.at_block_other rfl ?_)
      all_goals first
        | exact rd (α := Nat × V1) (k + 1, ⟨v3, h3⟩) hlt (hK := KSub.ownF pk hst.symm ks)
        | (exfalso; simp_all; done)
        | trace_state
    · have hst : (labs.take (k + 1)).filterMap (segOfI g) = (labs.take k).filterMap (segOfI g) ++ [⟨(k : Int), bs (segI g (k : Int))⟩] := by
        rw [hlt', List.filterMap_append]
        have : segOfI g (k : Int) = some ⟨(k : Int), bs (segI g (k : Int))⟩ := if_neg hsb
        simp [this]
      have hbs : bs (segI g (k : Int)) ≠ ⟨#[]⟩ := fun h => hsb (bs_nil.1 h)
      repeat' (first | refine E.st ?_ | refine E.cl (h := fun _ w hw => c_i_SegOf (g := g) w (hr.now hw) (hq.now hw)) (k := ?_) | refine E.q3 ?_ | refine E.q ?_ | refine E.qs ?_ | refine E.q2 ?_ | refine E.q4 ?_ | refine E.tr ?_ | refine E.ap (fun _ _ => ?_) | refine E.b1 (fun _ _ => ?_) | refine E.b0 (fun _ _ => ?_) | refine E.bsn (fun _ _ => ?_) | refine E.mk (fun _ _ => ?_) | refine E.bxO (fun _ => ?_) | refine E.al (fun _ => ?_) | refine E.sbO ?_ | refine E.dq ?_ | refine E.ct ?_ | refine E.cf ?_ | refine E.cs (fun hh => ?_) (fun hh => ?_) | refine E.at_block_other rfl ?_)
      all_goals first
        | exact rd (α := Nat × V1) (k + 1, ⟨_, by assumption⟩) hlt (hK := KSub.ownF pk hst.symm ks)
        | (exfalso; simp_all; done)
        | trace_state
  · have h8 : labs.take k = labs := List.take_of_length_le hge
    rw [h8]
    repeat' (first | refine E.st ?_ | refine E.q3 ?_ | refine E.q ?_ | refine E.qs ?_ | refine E.q2 ?_ | refine E.q4 ?_ | refine E.tr ?_ | refine E.ap (fun _ _ => ?_) | refine E.b1 (fun _ _ => ?_) | refine E.b0 (fun _ _ => ?_) | refine E.bsn (fun _ _ => ?_) | refine E.mk (fun _ _ => ?_) | refine E.bxO (fun _ => ?_) | refine E.al (fun _ => ?_) | refine E.sbO ?_ | refine E.dq ?_ | refine E.ct ?_ | refine E.cf ?_ | refine E.cs (fun hh => ?_) (fun hh => ?_) | refine E.at_block_other rfl ?_)
    exact r1 _
theorem c_codeNode {c : Int} (w : World) (hc : 0 ≤ c ∧ c ≤ 1000000 := by omega) : Calls Tryz.prog 97 #[.int .i64 c] w (Ret (fun _ : Unit => .agg #[.int .i64 (nodeOf c).l, .int .i64 (nodeOf c).n]) (fun _ => []) w) := by
  have d1 : c.tdiv 64 = c / 64 := Int.tdiv_eq_ediv_of_nonneg (by omega)
  have d2 : c.tmod 64 = c % 64 := Int.tmod_eq_emod_of_nonneg (by omega)
  have e1 : (nodeOf c).l = c.tdiv 64 := d1.symm
  have e2 : (nodeOf c).n = c.tmod 64 := d2.symm
  have w1 : IntKind.i64.wrap (c.tdiv 64) = c.tdiv 64 := wrap_i64_of (by omega)
  rw [e1, e2]
  rw [← w1]
  refine enter (args := _) Tryz.func97 rfl Tryz.ntmps97 (by simp) ?_
  repeat' (first | refine E.st ?_ | refine E.q5 ?_ | refine E.q3 ?_ | refine E.q ?_ | refine E.qs ?_ | refine E.q2 ?_ | refine E.q4 ?_ | refine E.tr ?_ | refine E.ap (fun _ _ => ?_) | refine E.b1 (fun _ _ => ?_) | refine E.b0 (fun _ _ => ?_) | refine E.bsn (fun _ _ => ?_) | refine E.mk (fun _ _ => ?_) | refine E.bxO (fun _ => ?_) | refine E.al (fun _ => ?_) | refine E.sbO ?_ | refine E.dq ?_ | refine E.ct ?_ | refine E.cf ?_ | refine E.cs (fun hh => ?_) (fun hh => ?_) | refine E.at_block_other rfl ?_)
  exact r1 ()
end E
end Go.Proofs.YtpiiapoafmnhhaaGreat
