/- A store is read, as the program reads it. -/
import Derived.Test.YtpiiapoafmnhhaaGreatZd
import Derived.Test.YtpiiapoafmnhhaaGreatZe
import Derived.Test.YtpiiapoafmnhhaaGreatMo
namespace Go.Proofs.YtpiiapoafmnhhaaGreat
namespace E
open Go Go.RowKit
set_option linter.unusedSimpArgs false
set_option linter.unusedVariables false
set_option maxHeartbeats 1000000
set_option maxRecDepth 10000
attribute [local irreducible] HC HL HQ HX HO At Y YV Opd Opds KnX Sl Ld Src GV RV Calls Code.wp eptr adr RdF ownF OneX HG LdC
theorem rowsA_bd {s : ByteArray} : ∀ (k p : Nat) {l : List Rw} {q : Nat}, rowsA (bn s) k p = some (l, q) → ∀ r ∈ l, (0 ≤ r.code ∧ r.code ≤ 16383) ∧ r.jn.length ≤ 127 ∧ ∀ o ∈ r.jn, 0 ≤ o ∧ o ≤ 16383
  | 0, p, l, q, h => by simp only [rowsA, Option.some.injEq, Prod.mk.injEq] at h; rw [← h.1]; simp
  | k + 1, p, l, q, h => by
    obtain ⟨c, p1, row, p2, rest, h1, h2, h3, h4⟩ := rowsA_some h
    have a1 := numA_le h1
    have a2 := rowA_le h2
    have a3 := rowA_bd h2
    have ih := rowsA_bd k p2 h3
    rw [h4]
    intro r hr
    rcases List.mem_cons.1 hr with rfl | hr
    · exact ⟨by dsimp only at *; omega, a2.1, a3⟩
    · exact ih r hr
theorem clR_len {s : ByteArray} {c : Cls} (h : clR (bn s) = some c) : c.rows.length ≤ 14 := by
  unfold clR at h
  dsimp only at h
  split at h
  · rename_i hh
    injection h with h
    have h1 := rwR_len (s := s) (p := 0) (f := false) (Nat.zero_le _)
    have h2 := nmR_bd (s := s) (p := (rwR (bn s) 0 false).2.1) (f := (rwR (bn s) 0 false).2.2) h1.2.1
    rw [← h]
    by_cases hb : 14 < (nmR (bn s) (rwR (bn s) 0 false).2.1 (rwR (bn s) 0 false).2.2).1
    · rw [decide_eq_true hb, Bool.or_true, rsR_t] at hh
      cases hh.1
    · have h3 := rsR_len (s := s) (nmR (bn s) (rwR (bn s) 0 false).2.1 (rwR (bn s) 0 false).2.2).1 (nmR (bn s) (rwR (bn s) 0 false).2.1 (rwR (bn s) 0 false).2.2).2.1 ((nmR (bn s) (rwR (bn s) 0 false).2.1 (rwR (bn s) 0 false).2.2).2.2 || decide (14 < (nmR (bn s) (rwR (bn s) 0 false).2.1 (rwR (bn s) 0 false).2.2).1)) h2.2.1
      dsimp only
      omega
  · cases h
theorem clR_bd {s : ByteArray} {c : Cls} (h : clR (bn s) = some c) : c.nums.length ≤ 127 ∧ c.hd ≤ s.size ∧ c.rows.length ≤ 14 ∧ ∀ r ∈ c.rows, (0 ≤ r.code ∧ r.code ≤ 16383) ∧ r.jn.length ≤ 127 ∧ ∀ o ∈ r.jn, 0 ≤ o ∧ o ≤ 16383 := by
  obtain ⟨n, p, h1, h2, h3⟩ := clsA_parts (clR_to h)
  have a1 := rowA_le h1
  exact ⟨a1.1, a1.2.2, clR_len h, rowsA_bd n p h3⟩
theorem rowPos_len (es : List Eg) : ∀ (p : Nat) (ns : List Nd), (rowPos es p ns).length = ns.length
  | _, [] => rfl
  | p, n :: ns => by simp only [rowPos, List.length_cons, rowPos_len es _ ns]
theorem clR_sg {g : Gr} (hg : g.ok) {s : Sg} (h : s ∈ storeL g) : clR (bn s.b) = some (clsG g s.l) := by
  obtain ⟨h1, h2, h3⟩ := mem_storeL.1 h
  rw [h3]
  refine clR_of (clsA_sg hg h1 h2) ?_
  unfold clsG
  dsimp only
  rw [rowPos_len]
  have := onlyE_len hg h1
  have := len_endN (onlyE g.es s.l)
  omega
theorem read_lab {xs : List Sg} {k : Nat} {s : Sg} (hx : xs[k]? = some s) (h : lok s.l = false) : readL xs = none := by
  cases hR : readL xs with
  | none => rfl
  | some g =>
    obtain ⟨h1, h2, _⟩ := readL_some hR
    have h3 := mem_storeL.1 (by rw [h2]; exact List.mem_of_getElem? hx : s ∈ storeL g)
    rw [h] at h3
    cases h3.1
theorem read_up {xs : List Sg} {k : Nat} {s s' : Sg} (hx : xs[k]? = some s) (hx' : xs[k + 1]? = some s') (h : s'.l ≤ s.l) : readL xs = none := by
  cases hR : readL xs with
  | none => rfl
  | some g =>
    obtain ⟨h1, h2, _⟩ := readL_some hR
    have h3 := storeL_up g
    rw [h2] at h3
    obtain ⟨i1, e1⟩ := List.getElem?_eq_some_iff.1 hx
    obtain ⟨i2, e2⟩ := List.getElem?_eq_some_iff.1 hx'
    have := List.pairwise_iff_getElem.1 h3 k (k + 1) i1 i2 (by omega)
    rw [e1, e2] at this
    omega
theorem read_cl {xs : List Sg} {k : Nat} {s : Sg} (hx : xs[k]? = some s) (h : clR (bn s.b) = none) : readL xs = none := by
  cases hR : readL xs with
  | none => rfl
  | some g =>
    obtain ⟨h1, h2, _⟩ := readL_some hR
    have h3 := clR_sg h1 (by rw [h2]; exact List.mem_of_getElem? hx : s ∈ storeL g)
    rw [h] at h3
    cases h3
theorem rowEs_len (a : Int) (r : Rw) : (rowEs a r).length ≤ r.jn.length := by rw [rowEs_eq]; exact List.length_filterMap_le _ _
theorem fl_rows (a : Int) : ∀ (rows : List Rw), (∀ r ∈ rows, r.jn.length ≤ 127) → (rows.flatMap (rowEs a)).length ≤ 127 * rows.length
  | [], _ => by simp
  | r :: rs, h => by
    have h1 := fl_rows a rs (fun x hx => h x (List.mem_cons_of_mem _ hx))
    have h2 := rowEs_len a r
    have h3 := h r List.mem_cons_self
    simp only [List.flatMap_cons, List.length_append, List.length_cons]
    omega
set_option maxHeartbeats 8000000 in
theorem c_i_StoreRead {v : Value} {xs : List Sg} (w : World) (hs : ∀ s ∈ xs, s.b.size ≤ 4000000) (hr : RdF w v xs := by exact rdA) : Calls Tryz.prog 32 #[v] w (Ret (fun z : V1 × V1 => .tuple #[.agg #[z.1.1, z.2.1], .bool (readL xs).isSome]) (fun z => [ownF 32 z.1.1 (grO (readL xs)).ns, ownF 84 z.2.1 (grO (readL xs)).es]) w) := by
  have o1 := hr.one
  have m1 := hr.le
  simp only [maxLen] at m1
  generalize hR : readL xs = R
  refine enter (args := _) Tryz.func32 rfl Tryz.ntmps32 (by simp) ?_
  refine E.nl 32 (α := Nd) ?_
  refine E.nl 84 (α := Eg) ?_
  refine E.nl 32 (α := Nd) ?_
  refine E.nl 84 (α := Eg) ?_
  repeat' (first | refine E.st ?_ | refine E.al (fun _ => ?_) | refine E.q3 ?_ | refine E.q ?_ | refine E.qs ?_ | refine E.q2 ?_ | refine E.q4 ?_ | refine E.tr ?_ | refine E.ap (fun _ _ => ?_) | refine E.b1 (fun _ _ => ?_) | refine E.b0 (fun _ _ => ?_) | refine E.bsn (fun _ _ => ?_) | refine E.mk (fun _ _ => ?_) | refine E.bxO (fun _ => ?_) | refine E.al (fun _ => ?_) | refine E.sbO ?_ | refine E.dq ?_ | refine E.ct ?_ | refine E.cf ?_ | refine E.cs (fun hh => ?_) (fun hh => ?_) | refine E.at_block_other rfl ?_)
  rename_i g2 g
  refine lq (fun z : Nat × Int × V1 × V1 × Gr => z.1 ≤ xs.length ∧ (-1 ≤ z.2.1 ∧ z.2.1 ≤ 7) ∧ (z.1 : Int) ≤ z.2.1 + 1 ∧ z.2.2.2.2.ns.length ≤ 127 * z.1 ∧ z.2.2.2.2.es.length ≤ 1778 * z.1 ∧ parse xs ⟨[], []⟩ = parse (xs.drop z.1) z.2.2.2.2 ∧ (z.1 = 0 ∧ z.2.1 = -1 ∨ ∃ s, 0 < z.1 ∧ xs[z.1 - 1]? = some s ∧ s.l = z.2.1)) (fun z => [(18, .pl (.int .i64 (z.1 : Int))), (5, .pl (.int .i64 z.2.1))]) (fun z => [.box g 45 [z.2.2.1.1, z.2.2.2.1.1], ownF 32 z.2.2.1.1 z.2.2.2.2.ns, ownF 84 z.2.2.2.1.1 z.2.2.2.2.es]) (fun z => xs.length - z.1) (0, -1, ⟨.slice none 0 0, rfl⟩, ⟨.slice none 0 0, rfl⟩, ⟨[], []⟩) ⟨Nat.zero_le _, by dsimp only; omega, by dsimp only; omega, by simp, by simp, rfl, Or.inl ⟨rfl, rfl⟩⟩ (fun z hz => ?_)
  obtain ⟨k, last, ⟨vM, hM⟩, ⟨vD, hD⟩, G⟩ := z
  obtain ⟨hk, hla, hkl, hn, he, hP, hlast⟩ := hz
  dsimp only at hk hla hkl hn he hP hlast hM hD ⊢
  simp only [List.append_eq, List.nil_append, List.cons_append]
  rcases Nat.lt_or_ge k xs.length with hlt | hge
  · obtain ⟨⟨sl, sb⟩, hx⟩ := get_lt hlt
    have hsz := hs _ (List.mem_of_getElem? hx)
    dsimp only at hsz
    by_cases hgood : lok sl = true ∧ last < sl
    · obtain ⟨hlok, hlt2⟩ := hgood
      have hL : ∀ w, Calls Tryz.prog 34 #[.int .i64 sl] w (Ret (fun _ : Unit => .bool true) (fun _ => []) w) := fun w => by rw [← hlok]; exact c_i_LabelOk w
      have hsl7 := lok_iff.1 hlok
      rw [drop_get hx] at hP
      simp only [parse] at hP
      have hCR : ∀ w, Calls Tryz.prog 96 #[.string sb] w (Ret (fun z : ClT (clR (bn sb)) => .tuple #[.agg #[z.1.1, .int .i64 ((clO (clR (bn sb))).hd : Int), z.2.1.1], .bool (clR (bn sb)).isSome]) (fun z => ownF 3 z.1.1 (clO (clR (bn sb))).nums :: ownF 131 z.2.1.1 z.2.2.1 :: inn 3 z.2.2.1 (clO (clR (bn sb))).rows) w) := fun w => c_classRead w
      cases hc : clR (bn sb) with
      | none =>
        have hN2 : R = none := by rw [← hR]; exact read_cl hx hc
        subst hN2
        rw [hc] at hCR
        simp only [clO, Option.getD_none, Option.isSome_none] at hCR
        repeat' (first | refine E.st ?_ | refine E.ug ?_ | refine E.sk ?_ | refine E.cl (h := fun _ w hw => hL w) (k := ?_) | refine E.cm (h := fun w hw => hCR w) (k := fun z => E.wy z.1.2 (fun _ => E.wy z.2.1.2 (fun _ => ?_))) | refine E.al (fun _ => ?_) | refine E.q3 ?_ | refine E.q ?_ | refine E.qs ?_ | refine E.q2 ?_ | refine E.q4 ?_ | refine E.tr ?_ | refine E.ap (fun _ _ => ?_) | refine E.b1 (fun _ _ => ?_) | refine E.b0 (fun _ _ => ?_) | refine E.bsn (fun _ _ => ?_) | refine E.mk (fun _ _ => ?_) | refine E.bxO (fun _ => ?_) | refine E.al (fun _ => ?_) | refine E.sbO ?_ | refine E.dq ?_ | refine E.ct ?_ | refine E.cf ?_ | refine E.cs (fun hh => ?_) (fun hh => ?_) | refine E.at_block_other rfl ?_)
        all_goals first
          | exact rn (α := V1 × V1) (⟨.slice none 0 0, rfl⟩, ⟨.slice none 0 0, rfl⟩) (hK := ksv)
          | (exfalso; simp at hh; omega)
          | trace_state
      | some c =>
        have hbd := clR_bd hc
        rw [clR_to hc] at hP
        rw [hc] at hCR
        obtain ⟨nums, hd, rows⟩ := c
        obtain ⟨hnl, _, hrl, hrb⟩ := hbd
        dsimp only at hP hnl hrl hrb
        have hfr := fl_rows sl rows (fun r hr => (hrb r hr).2.1)
        simp only [clO, Option.getD_some, Option.isSome_some] at hCR
        repeat' (first | refine E.st ?_ | refine E.ug ?_ | refine E.sk ?_ | refine E.cl (h := fun _ w hw => hL w) (k := ?_) | refine E.cm (h := fun w hw => hCR w) (k := fun zc => E.wy zc.1.2 (fun _ => E.wy zc.2.1.2 (fun _ => ?_))) | refine E.al (fun _ => ?_) | refine E.q3 ?_ | refine E.q ?_ | refine E.qs ?_ | refine E.q2 ?_ | refine E.q4 ?_ | refine E.tr ?_ | refine E.ap (fun _ _ => ?_) | refine E.b1 (fun _ _ => ?_) | refine E.b0 (fun _ _ => ?_) | refine E.bsn (fun _ _ => ?_) | refine E.mk (fun _ _ => ?_) | refine E.bxO (fun _ => ?_) | refine E.al (fun _ => ?_) | refine E.sbO ?_ | refine E.dq ?_ | refine E.ct ?_ | refine E.cf ?_ | refine E.cs (fun hh => ?_) (fun hh => ?_) | refine E.at_block_other rfl ?_)
        all_goals first
          | (exfalso; simp at hh; omega)
          | skip
        rename_i g7 _ _ g8
        obtain ⟨⟨v1, hv1⟩, ⟨v2, hv2⟩, ⟨rs, hMt⟩⟩ := zc
        dsimp only at *
        refine hcf [(47, .pl (.int .i64 0)), (46, .pl (.int .i64 (nums.length : Int))), (45, .pl v1), (8, .pl (.pointer (some ⟨g8, 0, none⟩))), (7, .pl (.pointer (some ⟨g7, 0, none⟩))), (5, .pl (.int .i64 sl)), (18, .pl (.int .i64 (k : Int))), (17, .pl (.int .i64 (xs.length : Int))), (16, .pl v), (4, .pl (.pointer (some ⟨g, 0, none⟩))), (3, .pl (.bool false)), (2, .pl (.pointer (some ⟨g2, 0, none⟩))), (0, .pl v)] ?_
        have hrs : rs.length = rows.length := hMt.1
        refine lq (fun y : Nat × V1 => y.1 ≤ nums.length) (fun y => [(47, .pl (.int .i64 (y.1 : Int)))]) (fun y => [.box g 45 [y.2.1, vD], ownF 32 y.2.1 (G.ns ++ (nums.take y.1).map (fun n => (⟨sl, n⟩ : Nd)))]) (fun y => nums.length - y.1) (0, ⟨vM, hM⟩) (Nat.zero_le _) (fun y hy => ?_) (hK := by exact Spl.cons pk (Spl.ownF pk (by simp) (Spl.nil _)))
        obtain ⟨j, ⟨vN, hN⟩⟩ := y
        dsimp only at hy hN ⊢
        simp only [List.append_eq, List.nil_append, List.cons_append]
        have hln : (G.ns ++ (nums.take j).map (fun n => (⟨sl, n⟩ : Nd))).length ≤ 2000 := by
          rw [List.length_append, List.length_map, List.length_take]; omega
        rcases Nat.lt_or_ge j nums.length with hjlt | hjge
        · obtain ⟨x, hxn⟩ := get_lt hjlt
          have hst : G.ns ++ (nums.take (j + 1)).map (fun n => (⟨sl, n⟩ : Nd)) = (G.ns ++ (nums.take j).map (fun n => (⟨sl, n⟩ : Nd))) ++ [⟨sl, x⟩] := by
            rw [List.take_add_one, hxn]; simp
          repeat' (first | refine E.st ?_ | refine E.q3 ?_ | refine E.q ?_ | refine E.qs ?_ | refine E.q2 ?_ | refine E.q4 ?_ | refine E.tr ?_ | refine E.ap (fun _ _ => ?_) | refine E.b1 (fun _ _ => ?_) | refine E.b0 (fun _ _ => ?_) | refine E.bsn (fun _ _ => ?_) | refine E.mk (fun _ _ => ?_) | refine E.bxO (fun _ => ?_) | refine E.al (fun _ => ?_) | refine E.sbO ?_ | refine E.dq ?_ | refine E.ct ?_ | refine E.cf ?_ | refine E.cs (fun hh => ?_) (fun hh => ?_) | refine E.at_block_other rfl ?_)
          exact rd (α := Nat × V1) (j + 1, ⟨_, by assumption⟩) hjlt (hK := KSub.pick pk (KSub.ownF pk hst.symm ksv))
        · rw [List.take_of_length_le hjge] at hln ⊢
          repeat' (first | refine E.st ?_ | refine E.q3 ?_ | refine E.q ?_ | refine E.qs ?_ | refine E.q2 ?_ | refine E.q4 ?_ | refine E.tr ?_ | refine E.ap (fun _ _ => ?_) | refine E.b1 (fun _ _ => ?_) | refine E.b0 (fun _ _ => ?_) | refine E.bsn (fun _ _ => ?_) | refine E.mk (fun _ _ => ?_) | refine E.bxO (fun _ => ?_) | refine E.al (fun _ => ?_) | refine E.sbO ?_ | refine E.dq ?_ | refine E.ct ?_ | refine E.cf ?_ | refine E.cs (fun hh => ?_) (fun hh => ?_) | refine E.at_block_other rfl ?_)
          refine hcf [(64, .pl (.int .i64 0)), (63, .pl (.int .i64 (rs.length : Int))), (62, .pl v2), (7, .pl (.pointer (some ⟨g7, 0, none⟩))), (5, .pl (.int .i64 sl)), (18, .pl (.int .i64 (k : Int))), (17, .pl (.int .i64 (xs.length : Int))), (16, .pl v), (4, .pl (.pointer (some ⟨g, 0, none⟩))), (3, .pl (.bool false)), (2, .pl (.pointer (some ⟨g2, 0, none⟩))), (0, .pl v)] ?_
          refine lq (fun y : Nat × V1 => y.1 ≤ rows.length) (fun y => [(64, .pl (.int .i64 (y.1 : Int)))]) (fun y => [.box g 45 [vN, y.2.1], ownF 84 y.2.1 (G.es ++ (rows.take y.1).flatMap (rowEs sl))]) (fun y => rows.length - y.1) (0, ⟨vD, hD⟩) (Nat.zero_le _) (fun y hy => ?_) (hK := by exact Spl.cons pk (Spl.ownF pk (by simp) (Spl.nil _)))
          obtain ⟨i, ⟨vE, hE⟩⟩ := y
          dsimp only at hy hE ⊢
          simp only [List.append_eq, List.nil_append, List.cons_append]
          have hfi := fl_rows sl (rows.take i) (fun r hr => (hrb r (List.mem_of_mem_take hr)).2.1)
          have hti : (rows.take i).length ≤ 14 := by rw [List.length_take]; omega
          have hle : (G.es ++ (rows.take i).flatMap (rowEs sl)).length ≤ 20000 := by
            rw [List.length_append]; omega
          rcases Nat.lt_or_ge i rows.length with hilt | hige
          · obtain ⟨⟨rc, rj, rf, rt⟩, hxr⟩ := get_lt hilt
            obtain ⟨⟨xc, xs0, xf, xt⟩, hxx⟩ := get_lt (xs := rs) (k := i) (by omega)
            have hq := hMt.2 i _ _ hxx hxr
            obtain ⟨hq1, hq2, hq3⟩ := hq
            dsimp only at hq1 hq2 hq3
            subst hq1 hq2 hq3
            have hj : RdIn w (inn 3 rs rows ++ []) (.slice xs0.a xs0.n xs0.c) rj := RdIn.own (List.mem_append_left _ (inn_mem hxx hxr))
            have hrb0 := hrb _ (List.mem_of_getElem? hxr)
            dsimp only at hrb0
            obtain ⟨hcb, hjl, hjb⟩ := hrb0
            have hstep := flatMap_take (rowEs sl) hxr
            rw [rowEs_eq] at hstep
            dsimp only at hstep
            repeat' (first | refine E.st ?_ | refine E.q3 ?_ | refine E.q ?_ | refine E.qs ?_ | refine E.q2 ?_ | refine E.q4 ?_ | refine E.tr ?_ | refine E.ap (fun _ _ => ?_) | refine E.b1 (fun _ _ => ?_) | refine E.b0 (fun _ _ => ?_) | refine E.bsn (fun _ _ => ?_) | refine E.mk (fun _ _ => ?_) | refine E.bxO (fun _ => ?_) | refine E.al (fun _ => ?_) | refine E.sbO ?_ | refine E.dq ?_ | refine E.ct ?_ | refine E.cf ?_ | refine E.cs (fun hh => ?_) (fun hh => ?_) | refine E.at_block_other rfl ?_)
            rename_i gr
            refine hcf [(71, .pl (.int .i64 0)), (70, .pl (.int .i64 (rj.length : Int))), (69, .pl (.slice xs0.a xs0.n xs0.c)), (13, .pl (.pointer (some ⟨gr, 0, none⟩))), (64, .pl (.int .i64 (i : Int))), (63, .pl (.int .i64 (rs.length : Int))), (62, .pl v2), (7, .pl (.pointer (some ⟨g7, 0, none⟩))), (5, .pl (.int .i64 sl)), (18, .pl (.int .i64 (k : Int))), (17, .pl (.int .i64 (xs.length : Int))), (16, .pl v), (4, .pl (.pointer (some ⟨g, 0, none⟩))), (3, .pl (.bool false)), (2, .pl (.pointer (some ⟨g2, 0, none⟩))), (0, .pl v)] ?_
            refine lq (fun y : Nat × V1 => y.1 ≤ rj.length) (fun y => [(71, .pl (.int .i64 (y.1 : Int)))]) (fun y => [.box g 45 [vN, y.2.1], ownF 84 y.2.1 ((G.es ++ (rows.take i).flatMap (rowEs sl)) ++ (rj.take y.1).filterMap (edgeOf sl xc))]) (fun y => rj.length - y.1) (0, ⟨vE, hE⟩) (Nat.zero_le _) (fun y hy => ?_) (hK := by exact Spl.cons pk (Spl.ownF pk (by simp) (Spl.nil _)))
            obtain ⟨m, ⟨vF, hF⟩⟩ := y
            dsimp only at hy hF ⊢
            simp only [List.append_eq, List.nil_append, List.cons_append]
            have hfm := fm_len (edgeOf sl xc) rj m
            have hlf : ((G.es ++ (rows.take i).flatMap (rowEs sl)) ++ (rj.take m).filterMap (edgeOf sl xc)).length ≤ 30000 := by
              rw [List.length_append]; omega
            rcases Nat.lt_or_ge m rj.length with hmlt | hmge
            · obtain ⟨o, hxo⟩ := get_lt hmlt
              have hob := hjb o (List.mem_of_getElem? hxo)
              have hfs := fm_step (f := edgeOf sl xc) hxo
              by_cases hco : xc < o
              · have hst : ((G.es ++ (rows.take i).flatMap (rowEs sl)) ++ (rj.take (m + 1)).filterMap (edgeOf sl xc)) = ((G.es ++ (rows.take i).flatMap (rowEs sl)) ++ (rj.take m).filterMap (edgeOf sl xc)) ++ [⟨sl, nodeOf xc, nodeOf o⟩] := by
                  rw [hfs, show edgeOf sl xc o = some ⟨sl, nodeOf xc, nodeOf o⟩ from if_pos hco]; simp
                repeat' (first | refine E.st ?_ | refine E.dxo (i := 24) vF [0, 1, 2, 3, 4, 5, 7, 6, 8, 9, 10, 11, 12, 13] ?_ | refine E.cl (h := fun _ w hw => c_codeNode (c := xc) w) (k := ?_) | refine E.cl (h := fun _ w hw => c_codeNode (c := o) w) (k := ?_) | refine E.q3 ?_ | refine E.q ?_ | refine E.qs ?_ | refine E.q2 ?_ | refine E.q4 ?_ | refine E.tr ?_ | refine E.ap (fun _ _ => ?_) | refine E.b1 (fun _ _ => ?_) | refine E.b0 (fun _ _ => ?_) | refine E.bsn (fun _ _ => ?_) | refine E.mk (fun _ _ => ?_) | refine E.bxO (fun _ => ?_) | refine E.al (fun _ => ?_) | refine E.sbO ?_ | refine E.dq ?_ | refine E.ct ?_ | refine E.cf ?_ | refine E.cs (fun hh => ?_) (fun hh => ?_) | refine E.at_block_other rfl ?_)
                all_goals first
                  | exact rd (α := Nat × V1) (m + 1, ⟨_, by assumption⟩) hmlt (hK := KSub.pick pk (KSub.ownF pk hst.symm ksv))
                  | trace_state
              · have hst : ((G.es ++ (rows.take i).flatMap (rowEs sl)) ++ (rj.take (m + 1)).filterMap (edgeOf sl xc)) = ((G.es ++ (rows.take i).flatMap (rowEs sl)) ++ (rj.take m).filterMap (edgeOf sl xc)) := by
                  rw [hfs, show edgeOf sl xc o = none from if_neg hco]; simp
                repeat' (first | refine E.st ?_ | refine E.q3 ?_ | refine E.q ?_ | refine E.qs ?_ | refine E.q2 ?_ | refine E.q4 ?_ | refine E.tr ?_ | refine E.ap (fun _ _ => ?_) | refine E.b1 (fun _ _ => ?_) | refine E.b0 (fun _ _ => ?_) | refine E.bsn (fun _ _ => ?_) | refine E.mk (fun _ _ => ?_) | refine E.bxO (fun _ => ?_) | refine E.al (fun _ => ?_) | refine E.sbO ?_ | refine E.dq ?_ | refine E.ct ?_ | refine E.cf ?_ | refine E.cs (fun hh => ?_) (fun hh => ?_) | refine E.at_block_other rfl ?_)
                all_goals first
                  | exact rd (α := Nat × V1) (m + 1, ⟨vF, hF⟩) hmlt (hK := KSub.pick pk (KSub.ownF pk hst.symm ksv))
                  | trace_state
            · rw [List.take_of_length_le hmge]
              repeat' (first | refine E.st ?_ | refine E.q3 ?_ | refine E.q ?_ | refine E.qs ?_ | refine E.q2 ?_ | refine E.q4 ?_ | refine E.tr ?_ | refine E.ap (fun _ _ => ?_) | refine E.b1 (fun _ _ => ?_) | refine E.b0 (fun _ _ => ?_) | refine E.bsn (fun _ _ => ?_) | refine E.mk (fun _ _ => ?_) | refine E.bxO (fun _ => ?_) | refine E.al (fun _ => ?_) | refine E.sbO ?_ | refine E.dq ?_ | refine E.ct ?_ | refine E.cf ?_ | refine E.cs (fun hh => ?_) (fun hh => ?_) | refine E.at_block_other rfl ?_)
              exact rd (α := Nat × V1) (i + 1, ⟨vF, hF⟩) hilt (hK := KSub.pick pk (KSub.ownF pk (by rw [hstep, List.append_assoc]) ksv))
          · rw [List.take_of_length_le hige]
            repeat' (first | refine E.st ?_ | refine E.q3 ?_ | refine E.q ?_ | refine E.qs ?_ | refine E.q2 ?_ | refine E.q4 ?_ | refine E.tr ?_ | refine E.ap (fun _ _ => ?_) | refine E.b1 (fun _ _ => ?_) | refine E.b0 (fun _ _ => ?_) | refine E.bsn (fun _ _ => ?_) | refine E.mk (fun _ _ => ?_) | refine E.bxO (fun _ => ?_) | refine E.al (fun _ => ?_) | refine E.sbO ?_ | refine E.dq ?_ | refine E.ct ?_ | refine E.cf ?_ | refine E.cs (fun hh => ?_) (fun hh => ?_) | refine E.at_block_other rfl ?_)
            exact rd (α := Nat × Int × V1 × V1 × Gr) (k + 1, sl, ⟨vN, hN⟩, ⟨vE, hE⟩, addSg G sl ⟨nums, hd, rows⟩) ⟨hlt, by dsimp only; omega, by dsimp only; omega, by simp only [addSg, clsNs, List.length_append, List.length_map]; omega, by simp only [addSg, clsEs, List.length_append]; omega, hP, Or.inr ⟨_, Nat.succ_pos k, hx, rfl⟩⟩ (hK := KSub.pick pk (KSub.ownF pk rfl (KSub.ownF pk rfl ksv)))
    · have hN2 : R = none := by
        rw [← hR]
        cases hlok : lok sl with
        | false => exact read_lab hx hlok
        | true =>
          have hle : sl ≤ last := by
            rcases Int.lt_or_le last sl with h | h
            · exact (hgood ⟨hlok, h⟩).elim
            · exact h
          have := lok_iff.1 hlok
          rcases hlast with ⟨h0, h1⟩ | ⟨s, h0, h1, h2⟩
          · omega
          · refine read_up h1 (s' := ⟨sl, sb⟩) (by rw [show k - 1 + 1 = k from by omega]; exact hx) (by dsimp only; omega)
      subst hN2
      cases hlok : lok sl with
      | false =>
        have hL : ∀ w, Calls Tryz.prog 34 #[.int .i64 sl] w (Ret (fun _ : Unit => .bool false) (fun _ => []) w) := fun w => by rw [← hlok]; exact c_i_LabelOk w
        repeat' (first | refine E.st ?_ | refine E.ug ?_ | refine E.sk ?_ | refine E.cl (h := fun _ w hw => hL w) (k := ?_) | refine E.al (fun _ => ?_) | refine E.q3 ?_ | refine E.q ?_ | refine E.qs ?_ | refine E.q2 ?_ | refine E.q4 ?_ | refine E.tr ?_ | refine E.ap (fun _ _ => ?_) | refine E.b1 (fun _ _ => ?_) | refine E.b0 (fun _ _ => ?_) | refine E.bsn (fun _ _ => ?_) | refine E.mk (fun _ _ => ?_) | refine E.bxO (fun _ => ?_) | refine E.al (fun _ => ?_) | refine E.sbO ?_ | refine E.dq ?_ | refine E.ct ?_ | refine E.cf ?_ | refine E.cs (fun hh => ?_) (fun hh => ?_) | refine E.at_block_other rfl ?_)
        all_goals first
          | exact rn (α := V1 × V1) (⟨.slice none 0 0, rfl⟩, ⟨.slice none 0 0, rfl⟩) (hK := ksv)
          | (exfalso; simp at hh; omega)
          | trace_state
      | true =>
        have hL : ∀ w, Calls Tryz.prog 34 #[.int .i64 sl] w (Ret (fun _ : Unit => .bool true) (fun _ => []) w) := fun w => by rw [← hlok]; exact c_i_LabelOk w
        have hle : sl ≤ last := by
          rcases Int.lt_or_le last sl with h | h
          · exact (hgood ⟨hlok, h⟩).elim
          · exact h
        repeat' (first | refine E.st ?_ | refine E.ug ?_ | refine E.sk ?_ | refine E.cl (h := fun _ w hw => hL w) (k := ?_) | refine E.al (fun _ => ?_) | refine E.q3 ?_ | refine E.q ?_ | refine E.qs ?_ | refine E.q2 ?_ | refine E.q4 ?_ | refine E.tr ?_ | refine E.ap (fun _ _ => ?_) | refine E.b1 (fun _ _ => ?_) | refine E.b0 (fun _ _ => ?_) | refine E.bsn (fun _ _ => ?_) | refine E.mk (fun _ _ => ?_) | refine E.bxO (fun _ => ?_) | refine E.al (fun _ => ?_) | refine E.sbO ?_ | refine E.dq ?_ | refine E.ct ?_ | refine E.cf ?_ | refine E.cs (fun hh => ?_) (fun hh => ?_) | refine E.at_block_other rfl ?_)
        all_goals first
          | exact rn (α := V1 × V1) (⟨.slice none 0 0, rfl⟩, ⟨.slice none 0 0, rfl⟩) (hK := ksv)
          | (exfalso; simp at hh; omega)
          | trace_state
  · have hP2 : parse xs ⟨[], []⟩ = some G := by rw [hP, List.drop_of_length_le hge]; rfl
    by_cases hst : storeI G = xs
    · have hgk : gok G.ns G.es = true := by
        cases hgk : gok G.ns G.es with
        | true => rfl
        | false =>
          rw [storeI_no hgk] at hst
          rw [← hst] at hP2
          simp only [parse, Option.some.injEq] at hP2
          rw [← hP2] at hgk
          revert hgk; decide
      have hgo : G.ok := Gr.ok_iff.2 hgk
      have hN2 : R = some G := by rw [← hR]; exact readL_yes hP2 hgo (by rw [← storeI_ok hgo]; exact hst)
      subst hN2
      have hSS : ∀ w u', RdF w u' (storeI G) → RdF w v xs → Calls Tryz.prog 98 #[u', v] w (Ret (fun _ : Unit => .bool true) (fun _ => []) w) := fun w u' a b => by
        have h0 := c_i_StoreSame w a b
        rw [decide_eq_true hst] at h0
        exact h0
      repeat' (first | refine E.st ?_ | refine E.cm (h := fun w hw => c_i_StoreOf (g := G) w (RdF.of_own memO hw) (RdF.of_own memO hw)) (k := fun z => ?_) | refine E.cl (h := fun _ w hw => hSS w _ (RdF.of_own memO hw) (hr.now hw)) (k := ?_) | refine E.q3 ?_ | refine E.q ?_ | refine E.qs ?_ | refine E.q2 ?_ | refine E.q4 ?_ | refine E.tr ?_ | refine E.ap (fun _ _ => ?_) | refine E.b1 (fun _ _ => ?_) | refine E.b0 (fun _ _ => ?_) | refine E.bsn (fun _ _ => ?_) | refine E.mk (fun _ _ => ?_) | refine E.bxO (fun _ => ?_) | refine E.al (fun _ => ?_) | refine E.sbO ?_ | refine E.dq ?_ | refine E.ct ?_ | refine E.cf ?_ | refine E.cs (fun hh => ?_) (fun hh => ?_) | refine E.at_block_other rfl ?_)
      all_goals first
        | exact rn (α := V1 × V1) (⟨vM, hM⟩, ⟨vD, hD⟩) (hK := ksv)
        | trace_state
    · have hN2 : R = none := by
        rw [← hR]
        refine readL_no (fun g h h1 h2 => ?_)
        rw [hP2] at h
        injection h with h
        subst h
        exact hst (by rw [storeI_ok h1]; exact h2)
      subst hN2
      have hSS : ∀ w u', RdF w u' (storeI G) → RdF w v xs → Calls Tryz.prog 98 #[u', v] w (Ret (fun _ : Unit => .bool false) (fun _ => []) w) := fun w u' a b => by
        have h0 := c_i_StoreSame w a b
        rw [decide_eq_false hst] at h0
        exact h0
      repeat' (first | refine E.st ?_ | refine E.cm (h := fun w hw => c_i_StoreOf (g := G) w (RdF.of_own memO hw) (RdF.of_own memO hw)) (k := fun z => ?_) | refine E.cl (h := fun _ w hw => hSS w _ (RdF.of_own memO hw) (hr.now hw)) (k := ?_) | refine E.q3 ?_ | refine E.q ?_ | refine E.qs ?_ | refine E.q2 ?_ | refine E.q4 ?_ | refine E.tr ?_ | refine E.ap (fun _ _ => ?_) | refine E.b1 (fun _ _ => ?_) | refine E.b0 (fun _ _ => ?_) | refine E.bsn (fun _ _ => ?_) | refine E.mk (fun _ _ => ?_) | refine E.bxO (fun _ => ?_) | refine E.al (fun _ => ?_) | refine E.sbO ?_ | refine E.dq ?_ | refine E.ct ?_ | refine E.cf ?_ | refine E.cs (fun hh => ?_) (fun hh => ?_) | refine E.at_block_other rfl ?_)
      all_goals first
        | exact rn (α := V1 × V1) (⟨.slice none 0 0, rfl⟩, ⟨.slice none 0 0, rfl⟩) (hK := ksv)
        | trace_state
end E
end Go.Proofs.YtpiiapoafmnhhaaGreat
