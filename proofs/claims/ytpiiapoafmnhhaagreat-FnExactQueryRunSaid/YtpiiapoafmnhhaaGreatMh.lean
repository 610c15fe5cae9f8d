/- A label's bytes, and a store, as the reference makes them. -/
import Derived.Test.YtpiiapoafmnhhaaGreatMc
import Derived.Test.YtpiiapoafmnhhaaGreatUg
import Derived.Test.YtpiiapoafmnhhaaGreatMd
import Derived.Test.YtpiiapoafmnhhaaGreatM09
namespace Go.Proofs.YtpiiapoafmnhhaaGreat
namespace E
open Go Go.RowKit
set_option linter.unusedSimpArgs false
set_option linter.unusedVariables false
set_option maxHeartbeats 1000000
set_option maxRecDepth 10000
attribute [local irreducible] HC HL HQ HX HO At Y YV Opd Opds KnX Sl Ld Src GV RV Calls Code.wp eptr adr RdF ownF OneX HG LdC
theorem numsL_step {ns : List Nd} {k : Nat} {x : Nd} {a : Int} (h : ns[k]? = some x) : numsL (ns.take (k + 1)) a = numsL (ns.take k) a ++ if x.l = a then [x.n] else [] := by
  unfold numsL
  rw [List.take_add_one, h, List.filter_append, List.map_append]
  by_cases hl : x.l = a <;> simp [hl]
theorem numsL_len2 (ns : List Nd) (a : Int) (k : Nat) : (numsL (ns.take k) a).length ≤ ns.length := by
  unfold numsL
  rw [List.length_map]
  exact Nat.le_trans (List.length_filter_le _ _) (by rw [List.length_take]; omega)
theorem rowBy_len (es : List Eg) (n : Nd) (h : es.length ≤ 1000) : (rowBy es n).length ≤ 3000 := by
  unfold rowBy jnL
  have h1 := numB_le (cd n)
  have h2 := rowB_le ((nearL es n).map cd)
  have h3 := near_len es n
  rw [List.length_append]
  rw [List.length_map] at h2
  omega
theorem rowsBy_len (es : List Eg) (h : es.length ≤ 1000) : ∀ ns : List Nd, (ns.flatMap (rowBy es)).length ≤ 3000 * ns.length
  | [] => by simp
  | n :: ns => by
    have h1 := rowsBy_len es h ns
    have h2 := rowBy_len es n h
    simp only [List.flatMap_cons, List.length_append, List.length_cons]
    omega
theorem flat_step {es : List Eg} {ns : List Nd} {k : Nat} {x : Nd} (h : ns[k]? = some x) : (ns.take (k + 1)).flatMap (rowBy es) = (ns.take k).flatMap (rowBy es) ++ rowBy es x := by
  rw [List.take_add_one, h, List.flatMap_append]
  simp
theorem c_l4Seg {v u : Value} {g : Gr} {a : Int} (w : World) (hg : g.ok) (hr : RdF w v g.ns := by exact rdA) (hq : RdF w u g.es := by exact rdA) : Calls Tryz.prog 151 #[.agg #[v, u], .int .i64 a] w (Ret (fun _ : Unit => .string (bs (segB g a))) (fun _ => []) w) := by
  have o1 := hr.one
  have o2 := hq.one
  have hnl := hg.1.len
  have hel := hg.2.len
  have heok : ∀ e ∈ g.es, eok e = true := fun e he => (hg.2.1 e he).1
  have hoe : (onlyE g.es a).length ≤ g.es.length := List.length_filter_le _ _
  have hen := len_endN (onlyE g.es a)
  have hnn := numsL_len2 g.ns a g.ns.length
  rw [List.take_length] at hnn
  refine enter (args := _) Tryz.func151 rfl Tryz.ntmps151 (by simp) ?_
  repeat' (first | refine E.st ?_ | refine E.b0 (α := Int) (fun v0 h0 => ?_) | refine E.q3 ?_ | refine E.q ?_ | refine E.qs ?_ | refine E.q2 ?_ | refine E.q4 ?_ | refine E.tr ?_ | refine E.ap (fun _ _ => ?_) | refine E.b1 (fun _ _ => ?_) | refine E.b0 (fun _ _ => ?_) | refine E.bsn (fun _ _ => ?_) | refine E.mk (fun _ _ => ?_) | refine E.bxO (fun _ => ?_) | refine E.al (fun _ => ?_) | refine E.sbO ?_ | refine E.dq ?_ | refine E.ct ?_ | refine E.cf ?_ | refine E.cs (fun hh => ?_) (fun hh => ?_) | refine E.at_block_other rfl ?_)
  refine lq (fun p : Nat × V1 => p.1 ≤ g.ns.length) (fun p => [(6, .pl (.int .i64 (p.1 : Int))), (5, .pl p.2.1)]) (fun p => [ownF 3 p.2.1 (numsL (g.ns.take p.1) a)]) (fun p => g.ns.length - p.1) (0, ⟨v0, h0⟩) (Nat.zero_le _) (fun p hp => ?_)
  obtain ⟨k, ⟨v5, h5⟩⟩ := p
  dsimp only at hp h5 ⊢
  have hnk := numsL_len2 g.ns a k
  rcases Nat.lt_or_ge k g.ns.length with hlt | hge
  · obtain ⟨⟨xl, xn⟩, hx⟩ := get_lt hlt
    have hst := numsL_step (a := a) hx
    by_cases hla : xl = a
    · have hst' : numsL (g.ns.take (k + 1)) a = numsL (g.ns.take k) a ++ [xn] := by rw [hst, if_pos hla]
      repeat' (first | refine E.st ?_ | refine E.q3 ?_ | refine E.q ?_ | refine E.qs ?_ | refine E.q2 ?_ | refine E.q4 ?_ | refine E.tr ?_ | refine E.ap (fun _ _ => ?_) | refine E.b1 (fun _ _ => ?_) | refine E.b0 (fun _ _ => ?_) | refine E.bsn (fun _ _ => ?_) | refine E.mk (fun _ _ => ?_) | refine E.bxO (fun _ => ?_) | refine E.al (fun _ => ?_) | refine E.sbO ?_ | refine E.dq ?_ | refine E.ct ?_ | refine E.cf ?_ | refine E.cs (fun hh => ?_) (fun hh => ?_) | refine E.at_block_other rfl ?_)
      refine rd (α := Nat × V1) (k + 1, ⟨_, ?_⟩) hlt (hK := KSub.ownF pk hst'.symm ks)
      assumption
    · have hst' : numsL (g.ns.take (k + 1)) a = numsL (g.ns.take k) a := by rw [hst, if_neg hla, List.append_nil]
      repeat' (first | refine E.st ?_ | refine E.q3 ?_ | refine E.q ?_ | refine E.qs ?_ | refine E.q2 ?_ | refine E.q4 ?_ | refine E.tr ?_ | refine E.ap (fun _ _ => ?_) | refine E.b1 (fun _ _ => ?_) | refine E.b0 (fun _ _ => ?_) | refine E.bsn (fun _ _ => ?_) | refine E.mk (fun _ _ => ?_) | refine E.bxO (fun _ => ?_) | refine E.al (fun _ => ?_) | refine E.sbO ?_ | refine E.dq ?_ | refine E.ct ?_ | refine E.cf ?_ | refine E.cs (fun hh => ?_) (fun hh => ?_) | refine E.at_block_other rfl ?_)
      exact rd (α := Nat × V1) (k + 1, ⟨v5, h5⟩) hlt (hK := KSub.ownF pk hst'.symm ks)
  · rw [List.take_of_length_le hge]
    by_cases hem : numsL g.ns a = [] ∧ endN (onlyE g.es a) = []
    · have hsb : segB g a = [] := if_pos hem
      have z1 : (numsL g.ns a).length = 0 := by rw [hem.1]; rfl
      have z2 : (endN (onlyE g.es a)).length = 0 := by rw [hem.2]; rfl
      rw [hsb]
      repeat' (first | refine E.st ?_ | refine E.cm (h := fun w hw => c_l4Only (a := a) w heok (by omega) (hr.now hw) (hq.now hw)) (k := fun z => E.wy z.1.2 (fun _ => E.wy z.2.2 (fun _ => ?_))) | refine E.q3 ?_ | refine E.q ?_ | refine E.qs ?_ | refine E.q2 ?_ | refine E.q4 ?_ | refine E.tr ?_ | refine E.ap (fun _ _ => ?_) | refine E.b1 (fun _ _ => ?_) | refine E.b0 (fun _ _ => ?_) | refine E.bsn (fun _ _ => ?_) | refine E.mk (fun _ _ => ?_) | refine E.bxO (fun _ => ?_) | refine E.al (fun _ => ?_) | refine E.sbO ?_ | refine E.dq ?_ | refine E.ct ?_ | refine E.cf ?_ | refine E.cs (fun hh => ?_) (fun hh => ?_) | refine E.at_block_other rfl ?_)
      all_goals first
        | exact rv0 rfl
        | (exfalso; omega)
        | trace_state
    · have hsb : segB g a = rowB (numsL g.ns a) ++ (numB ((endN (onlyE g.es a)).length : Nat) ++ (endN (onlyE g.es a)).flatMap (rowBy (onlyE g.es a))) := if_neg hem
      have z3 : (numsL g.ns a).length + (endN (onlyE g.es a)).length ≠ 0 := fun h => hem ⟨List.eq_nil_of_length_eq_zero (by omega), List.eq_nil_of_length_eq_zero (by omega)⟩
      have b1 : (bs (rowB (numsL g.ns a))).size ≤ 10000 := by rw [bs_size]; have := rowB_le (numsL g.ns a); omega
      have b2 : (bs (numB ((endN (onlyE g.es a)).length : Nat))).size ≤ 2 := by rw [bs_size]; exact numB_le _
      have hoeok : ∀ e ∈ onlyE g.es a, eok e = true := fun e he => heok e (List.mem_filter.1 he).1
      repeat' (first | refine E.st ?_ | refine E.cm (h := fun w hw => c_l4Only (a := a) w heok (by omega) (hr.now hw) (hq.now hw)) (k := fun z => E.wy z.1.2 (fun _ => E.wy z.2.2 (fun _ => ?_))) | refine E.cl (h := fun _ w _ => c_s_PackRow (xs := numsL g.ns a) w) (k := ?_) | refine E.cl (h := fun _ w _ => c_s_PackNum w) (k := ?_)  | refine E.q3 ?_ | refine E.q ?_ | refine E.qs ?_ | refine E.q2 ?_ | refine E.q4 ?_ | refine E.tr ?_ | refine E.ap (fun _ _ => ?_) | refine E.b1 (fun _ _ => ?_) | refine E.b0 (fun _ _ => ?_) | refine E.bsn (fun _ _ => ?_) | refine E.mk (fun _ _ => ?_) | refine E.bxO (fun _ => ?_) | refine E.al (fun _ => ?_) | refine E.sbO ?_ | refine E.dq ?_ | refine E.ct ?_ | refine E.cf ?_ | refine E.cs (fun hh => ?_) (fun hh => ?_) | refine E.at_block_other rfl ?_)
      refine lq (fun k : Nat => k ≤ (endN (onlyE g.es a)).length) (fun k => [(9, .pl (.int .i64 (k : Int))), (8, .pl (.string (bs (rowB (numsL g.ns a) ++ (numB ((endN (onlyE g.es a)).length : Nat) ++ ((endN (onlyE g.es a)).take k).flatMap (rowBy (onlyE g.es a)))))))]) (fun k => ([] : List Ck)) (fun k => (endN (onlyE g.es a)).length - k) 0 (Nat.zero_le _) (fun k hk => ?_) (hF := by simp only [List.take_zero, List.flatMap_nil, List.append_nil, bs_app]; exact fs)
      have hfl := rowsBy_len (onlyE g.es a) (by omega) ((endN (onlyE g.es a)).take k)
      have htl : ((endN (onlyE g.es a)).take k).length ≤ k := List.length_take_le _ _
      have b3 : (bs (rowB (numsL g.ns a) ++ (numB ((endN (onlyE g.es a)).length : Nat) ++ ((endN (onlyE g.es a)).take k).flatMap (rowBy (onlyE g.es a))))).size ≤ 1000000 := by
        rw [bs_size, List.length_append, List.length_append]
        rw [bs_size] at b1 b2
        omega
      rcases Nat.lt_or_ge k (endN (onlyE g.es a)).length with hlt | hge
      · obtain ⟨⟨xl, xn⟩, hx⟩ := get_lt hlt
        have hnl3 := near_len (onlyE g.es a) ⟨xl, xn⟩
        have hnl4 : ((nearL (onlyE g.es a) ⟨xl, xn⟩).map cd).length ≤ 1000 := by rw [List.length_map]; omega
        have b4 : (bs (numB (cd ⟨xl, xn⟩))).size ≤ 2 := by rw [bs_size]; exact numB_le _
        have b5 : (bs (rowB ((nearL (onlyE g.es a) ⟨xl, xn⟩).map cd))).size ≤ 3000 := by
          rw [bs_size]
          have := rowB_le ((nearL (onlyE g.es a) ⟨xl, xn⟩).map cd)
          rw [List.length_map] at this
          omega
        have b6 : (bs (rowB (numsL g.ns a) ++ (numB ((endN (onlyE g.es a)).length : Nat) ++ ((endN (onlyE g.es a)).take k).flatMap (rowBy (onlyE g.es a)))) ++ bs (numB (cd ⟨xl, xn⟩))).size ≤ 1000010 := by rw [ByteArray.size_append]; omega
        have hcdb : -9000000000000000000 ≤ cd ⟨xl, xn⟩ ∧ cd ⟨xl, xn⟩ ≤ 9000000000000000000 := by
          have hm := (mem_endN.1 (List.mem_of_getElem? hx))
          obtain ⟨e, he, hxe⟩ := hm
          have hp := eok_parts (hoeok e he)
          rcases hxe with hxe | hxe
          · rw [hxe]; have := cd_bd hp.2.1; omega
          · rw [hxe]; have := cd_bd hp.2.2.1; omega
        have hst : bs (rowB (numsL g.ns a) ++ (numB ((endN (onlyE g.es a)).length : Nat) ++ ((endN (onlyE g.es a)).take (k + 1)).flatMap (rowBy (onlyE g.es a)))) = (bs (rowB (numsL g.ns a) ++ (numB ((endN (onlyE g.es a)).length : Nat) ++ ((endN (onlyE g.es a)).take k).flatMap (rowBy (onlyE g.es a)))) ++ bs (numB (cd ⟨xl, xn⟩))) ++ bs (rowB ((nearL (onlyE g.es a) ⟨xl, xn⟩).map cd)) := by
          rw [flat_step hx, ← bs_app, ← bs_app]
          unfold rowBy jnL
          simp only [List.append_assoc]
        repeat' (first | refine E.st ?_ | refine E.dx (i := 15) [0, 1, 5, 6, 2, 3, 4, 7, 8, 9, 10, 11] ?_ | refine E.cl (h := fun _ w _ => c_s_l2Code w) (k := ?_) | refine E.cl (h := fun _ w _ => c_s_PackNum w) (k := ?_) | refine E.cm (h := fun w hw => c_l2Near w hoeok (by omega)) (k := fun z => ?_) | refine E.cm (h := fun w hw => c_l4Codes (ns := nearL (onlyE g.es a) ⟨xl, xn⟩) w (by omega)) (k := fun z => E.wy z.2 (fun _ => ?_)) | refine E.cl (h := fun _ w hw => c_s_PackRow (xs := (nearL (onlyE g.es a) ⟨xl, xn⟩).map cd) w) (k := ?_) | refine E.q3 ?_ | refine E.q ?_ | refine E.qs ?_ | refine E.q2 ?_ | refine E.q4 ?_ | refine E.tr ?_ | refine E.ap (fun _ _ => ?_) | refine E.b1 (fun _ _ => ?_) | refine E.b0 (fun _ _ => ?_) | refine E.bsn (fun _ _ => ?_) | refine E.mk (fun _ _ => ?_) | refine E.bxO (fun _ => ?_) | refine E.al (fun _ => ?_) | refine E.sbO ?_ | refine E.dq ?_ | refine E.ct ?_ | refine E.cf ?_ | refine E.cs (fun hh => ?_) (fun hh => ?_) | refine E.at_block_other rfl ?_)
        all_goals first
          | exact rd (k + 1) (by omega) (hF := by rw [hst]; exact fs)
          | trace_state
      · rw [List.take_of_length_le hge]
        repeat' (first | refine E.st ?_ | refine E.q3 ?_ | refine E.q ?_ | refine E.qs ?_ | refine E.q2 ?_ | refine E.q4 ?_ | refine E.tr ?_ | refine E.ap (fun _ _ => ?_) | refine E.b1 (fun _ _ => ?_) | refine E.b0 (fun _ _ => ?_) | refine E.bsn (fun _ _ => ?_) | refine E.mk (fun _ _ => ?_) | refine E.bxO (fun _ => ?_) | refine E.al (fun _ => ?_) | refine E.sbO ?_ | refine E.dq ?_ | refine E.ct ?_ | refine E.cf ?_ | refine E.cs (fun hh => ?_) (fun hh => ?_) | refine E.at_block_other rfl ?_)
        exact rv0 (by rw [hsb])
theorem bs_nil {l : List Nat} : bs l = ⟨#[]⟩ ↔ l = [] := by
  constructor
  · intro h
    have h1 := bs_size l
    rw [h] at h1
    exact List.eq_nil_of_length_eq_zero h1.symm
  · rintro rfl; rfl
theorem labs_take {k : Nat} (h : k < 8) : labs.take (k + 1) = labs.take k ++ [(k : Int)] := by
  rw [List.take_add_one]
  have : labs[k]? = some (k : Int) := by
    match k, h with
    | 0, _ | 1, _ | 2, _ | 3, _ | 4, _ | 5, _ | 6, _ | 7, _ => rfl
  rw [this]
  rfl
theorem c_l4Store {v u : Value} {g : Gr} (w : World) (hg : g.ok) (hr : RdF w v g.ns := by exact rdA) (hq : RdF w u g.es := by exact rdA) : Calls Tryz.prog 92 #[.agg #[v, u]] w (Ret (fun s : Sv => .slice s.a s.n s.c) (fun s => [ownF 65 (.slice s.a s.n s.c) (storeL g)]) w) := by
  refine calls_sv ?_
  have o1 := hr.one
  have o2 := hq.one
  refine enter (args := _) Tryz.func92 rfl Tryz.ntmps92 (by simp) ?_
  repeat' (first | refine E.st ?_ | refine E.b0 (α := Sg) (fun v0 h0 => ?_) | refine E.q3 ?_ | refine E.q ?_ | refine E.qs ?_ | refine E.q2 ?_ | refine E.q4 ?_ | refine E.tr ?_ | refine E.ap (fun _ _ => ?_) | refine E.b1 (fun _ _ => ?_) | refine E.b0 (fun _ _ => ?_) | refine E.bsn (fun _ _ => ?_) | refine E.mk (fun _ _ => ?_) | refine E.bxO (fun _ => ?_) | refine E.al (fun _ => ?_) | refine E.sbO ?_ | refine E.dq ?_ | refine E.ct ?_ | refine E.cf ?_ | refine E.cs (fun hh => ?_) (fun hh => ?_) | refine E.at_block_other rfl ?_)
  refine lq (fun p : Nat × V1 => p.1 ≤ 8) (fun p => [(4, .pl (.int .i64 (p.1 : Int))), (3, .pl p.2.1)]) (fun p => [ownF 65 p.2.1 ((labs.take p.1).filterMap (segOf g))]) (fun p => 8 - p.1) (0, ⟨v0, h0⟩) (Nat.zero_le _) (fun p hp => ?_)
  obtain ⟨k, ⟨v3, h3⟩⟩ := p
  dsimp only at hp h3 ⊢
  have hfl : ((labs.take k).filterMap (segOf g)).length ≤ 8 := by
    refine Nat.le_trans (List.length_filterMap_le _ _) ?_
    rw [List.length_take]
    have : labs.length = 8 := rfl
    omega
  rcases Nat.lt_or_ge k 8 with hlt | hge
  · have hlt' := labs_take hlt
    by_cases hsb : segB g (k : Int) = []
    · have hst : (labs.take (k + 1)).filterMap (segOf g) = (labs.take k).filterMap (segOf g) := by
        rw [hlt', List.filterMap_append]
        have : segOf g (k : Int) = none := if_pos hsb
        simp [this]
      have hbs : bs (segB g (k : Int)) = ⟨#[]⟩ := bs_nil.2 hsb
      repeat' (first | refine E.st ?_ | refine E.cl (h := fun _ w hw => c_l4Seg (g := g) w hg (hr.now hw) (hq.now hw)) (k := ?_) | refine E.q3 ?_ | refine E.q ?_ | refine E.qs ?_ | refine E.q2 ?_ | refine E.q4 ?_ | refine E.tr ?_ | refine E.ap (fun _ _ => ?_) | refine E.b1 (fun _ _ => ?_) | refine E.b0 (fun _ _ => ?_) | refine E.bsn (fun _ _ => ?_) | refine E.mk (fun _ _ => ?_) | refine E.bxO (fun _ => ?_) | refine E.al (fun _ => ?_) | refine E.sbO ?_ | refine E.dq ?_ | refine E.ct ?_ | refine E.cf ?_ | refine E.cs (fun hh => ?_) (fun hh => ?_) | refine E.at_block_other rfl ?_)
      all_goals first
        | exact rd (α := Nat × V1) (k + 1, ⟨v3, h3⟩) hlt (hK := KSub.ownF pk hst.symm ks)
        | (exfalso; simp_all; done)
        | trace_state
    · have hst : (labs.take (k + 1)).filterMap (segOf g) = (labs.take k).filterMap (segOf g) ++ [⟨(k : Int), bs (segB g (k : Int))⟩] := by
        rw [hlt', List.filterMap_append]
        have : segOf g (k : Int) = some ⟨(k : Int), bs (segB g (k : Int))⟩ := if_neg hsb
        simp [this]
      have hbs : bs (segB g (k : Int)) ≠ ⟨#[]⟩ := fun h => hsb (bs_nil.1 h)
      repeat' (first | refine E.st ?_ | refine E.cl (h := fun _ w hw => c_l4Seg (g := g) w hg (hr.now hw) (hq.now hw)) (k := ?_) | refine E.q3 ?_ | refine E.q ?_ | refine E.qs ?_ | refine E.q2 ?_ | refine E.q4 ?_ | refine E.tr ?_ | refine E.ap (fun _ _ => ?_) | refine E.b1 (fun _ _ => ?_) | refine E.b0 (fun _ _ => ?_) | refine E.bsn (fun _ _ => ?_) | refine E.mk (fun _ _ => ?_) | refine E.bxO (fun _ => ?_) | refine E.al (fun _ => ?_) | refine E.sbO ?_ | refine E.dq ?_ | refine E.ct ?_ | refine E.cf ?_ | refine E.cs (fun hh => ?_) (fun hh => ?_) | refine E.at_block_other rfl ?_)
      all_goals first
        | exact rd (α := Nat × V1) (k + 1, ⟨_, by assumption⟩) hlt (hK := KSub.ownF pk hst.symm ks)
        | (exfalso; simp_all; done)
        | trace_state
  · have h8 : labs.take k = labs := List.take_of_length_le hge
    rw [h8]
    repeat' (first | refine E.st ?_ | refine E.q3 ?_ | refine E.q ?_ | refine E.qs ?_ | refine E.q2 ?_ | refine E.q4 ?_ | refine E.tr ?_ | refine E.ap (fun _ _ => ?_) | refine E.b1 (fun _ _ => ?_) | refine E.b0 (fun _ _ => ?_) | refine E.bsn (fun _ _ => ?_) | refine E.mk (fun _ _ => ?_) | refine E.bxO (fun _ => ?_) | refine E.al (fun _ => ?_) | refine E.sbO ?_ | refine E.dq ?_ | refine E.ct ?_ | refine E.cf ?_ | refine E.cs (fun hh => ?_) (fun hh => ?_) | refine E.at_block_other rfl ?_)
    exact r1 _
end E
end Go.Proofs.YtpiiapoafmnhhaaGreat
