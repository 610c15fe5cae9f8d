/- The part of a graph that is of one label. -/
import Derived.Test.YtpiiapoafmnhhaaGreatM08
import Derived.Test.YtpiiapoafmnhhaaGreatM12
namespace Go.Proofs.YtpiiapoafmnhhaaGreat
namespace E
open Go Go.RowKit
set_option linter.unusedSimpArgs false
set_option linter.unusedVariables false
set_option maxHeartbeats 1000000
set_option maxRecDepth 10000
attribute [local irreducible] HC HL HQ HX HO At Y YV Opd Opds KnX Sl Ld Src GV RV Calls Code.wp eptr adr RdF ownF OneX HG LdC
theorem onlyE_step {es : List Eg} {k : Nat} {e : Eg} {a : Int} (h : es[k]? = some e) : onlyE (es.take (k + 1)) a = onlyE (es.take k) a ++ if e.l = a then [e] else [] := by
  unfold onlyE
  rw [List.take_add_one, h, List.filter_append]
  by_cases hl : e.l = a <;> simp [hl]
theorem endN_snoc (es : List Eg) (e : Eg) : endN (es ++ [e]) = addN (addN (endN es) e.a) e.b := by
  unfold endN
  rw [List.foldl_append]
  rfl
theorem onlyE_len2 (es : List Eg) (a : Int) (k : Nat) : (onlyE (es.take k) a).length ≤ es.length := Nat.le_trans (List.length_filter_le _ _) (by rw [List.length_take]; omega)
theorem putN_len (ns : List Nd) (n : Nd) : (putN ns n).length = ns.length + 1 := by
  have h := congrArg List.length (List.takeWhile_append_dropWhile (p := fun x => decide (cd x < cd n)) (l := ns))
  rw [List.length_append] at h
  unfold putN
  rw [List.length_append, List.length_cons]
  omega
theorem c_l4Only {v u : Value} {ns : List Nd} {es : List Eg} {a : Int} (w : World) (he : ∀ e ∈ es, eok e = true) (hl : es.length ≤ 1000) (hr : RdF w v ns := by exact rdA) (hq : RdF w u es := by exact rdA) : Calls Tryz.prog 192 #[.agg #[v, u], .int .i64 a] w (Ret (fun z : V1 × V1 => .agg #[z.1.1, z.2.1]) (fun z => [ownF 32 z.1.1 (endN (onlyE es a)), ownF 84 z.2.1 (onlyE es a)]) w) := by
  have o1 := hr.one
  have o2 := hq.one
  refine enter (args := _) Tryz.func192 rfl Tryz.ntmps192 (by simp) ?_
  repeat' (first | refine E.st ?_ | refine E.al (fun g => ?_) | refine E.q3 ?_ | refine E.q ?_ | refine E.qs ?_ | refine E.q2 ?_ | refine E.q4 ?_ | refine E.tr ?_ | refine E.ap (fun _ _ => ?_) | refine E.b1 (fun _ _ => ?_) | refine E.b0 (fun _ _ => ?_) | refine E.bsn (fun _ _ => ?_) | refine E.mk (fun _ _ => ?_) | refine E.bxO (fun _ => ?_) | refine E.al (fun _ => ?_) | refine E.sbO ?_ | refine E.dq ?_ | refine E.ct ?_ | refine E.cf ?_ | refine E.cs (fun hh => ?_) (fun hh => ?_) | refine E.at_block_other rfl ?_)
  refine E.nl 32 (α := Nd) ?_
  refine E.nl 84 (α := Eg) ?_
  refine lq (fun p : Nat × V1 × V1 => p.1 ≤ es.length) (fun p => [(6, .pl (.int .i64 (p.1 : Int)))]) (fun p => [.box g 45 [p.2.1.1, p.2.2.1], ownF 32 p.2.1.1 (endN (onlyE (es.take p.1) a)), ownF 84 p.2.2.1 (onlyE (es.take p.1) a)]) (fun p => es.length - p.1) (0, ⟨.slice none 0 0, rfl⟩, ⟨.slice none 0 0, rfl⟩) (Nat.zero_le _) (fun p hp => ?_)
  obtain ⟨k, ⟨vN, hN⟩, ⟨vE, hE⟩⟩ := p
  dsimp only at hp hN hE ⊢
  have hoE := onlyE_len2 es a k
  have hoN := len_endN (onlyE (es.take k) a)
  have hok : ∀ e ∈ onlyE (es.take k) a, eok e = true := fun e h => he e (List.mem_of_mem_take (List.mem_filter.1 h).1)
  have hord := ord_endN hok
  rcases Nat.lt_or_ge k es.length with hlt | hge
  · obtain ⟨⟨el, ⟨al, an⟩, ⟨bl, bn⟩⟩, hx⟩ := get_lt hlt
    have heo := eok_parts (he _ (List.mem_of_getElem? hx))
    dsimp only at heo
    have hst := onlyE_step (a := a) hx
    have hord2 := hord.addN (m := ⟨al, an⟩) heo.2.1
    have hp1 := fun m => putN_ins (n := m) hord
    have hp2 := fun m => putN_ins (n := m) hord2
    have hl2 := len_addN (endN (onlyE (es.take k) a)) ⟨al, an⟩
    have q1 := @pos_neg (endN (onlyE (es.take k) a)) ⟨al, an⟩
    repeat' (first | refine E.st ?_ | refine E.dxo (i := 6) vE [0, 1, 2, 3, 4, 5, 6, 7, 8, 9, 10] ?_ | refine E.cl (h := fun _ w _ => c_s_l2At w) (k := ?_) | refine E.dxo (i := 8) vN [0, 1, 2, 3, 4, 5, 6, 7, 8] ?_ | refine E.dxo (i := 10) z.1 [0, 1, 2, 3, 4, 5, 6, 7, 8] ?_ | refine E.dxo (i := 10) vN [0, 1, 2, 3, 4, 5, 6, 7, 8] ?_ | refine E.ckq (h := fun w hw => c_l2PutNode w hw (hl := by first | omega | (rw [putN_len]; omega))) (k := fun z => E.wy z.2 (fun hz => ?_)) | refine E.q3 ?_ | refine E.q ?_ | refine E.qs ?_ | refine E.q2 ?_ | refine E.q4 ?_ | refine E.tr ?_ | refine E.ap (fun _ _ => ?_) | refine E.b1 (fun _ _ => ?_) | refine E.b0 (fun _ _ => ?_) | refine E.bsn (fun _ _ => ?_) | refine E.mk (fun _ _ => ?_) | refine E.bxO (fun _ => ?_) | refine E.al (fun _ => ?_) | refine E.sbO ?_ | refine E.dq ?_ | refine E.ct ?_ | refine E.cf ?_ | refine E.cs (fun hh => ?_) (fun hh => ?_) | refine E.at_block_other rfl ?_)
    all_goals first
      | (refine rd (α := Nat × V1 × V1) (k + 1, ⟨_, ?_⟩, ⟨_, ?_⟩) hlt (hK := KSub.pick pk (KSub.ownF pk ?_ (KSub.ownF pk ?_ ks))); all_goals first | assumption | skip)
      | trace_state
    all_goals
      dsimp only
      rw [hst]
      have q2 := @pos_neg (endN (onlyE (es.take k) a)) ⟨bl, bn⟩
      have q3 := @pos_neg (putN (endN (onlyE (es.take k) a)) ⟨al, an⟩) ⟨bl, bn⟩
      have ea : ∀ (y : Nd), (⟨y.l, y.n⟩ : Nd) = y := fun y => rfl
      have hsn : ∀ e : Eg, endN (onlyE (es.take k) a ++ [e]) = addN (addN (endN (onlyE (es.take k) a)) e.a) e.b := fun e => endN_snoc _ e
      simp only [q1, q2, q3, Decidable.not_not] at *
      simp only [addN] at *
      simp_all
  · rw [List.take_of_length_le hge]
    repeat' (first | refine E.st ?_ | refine E.q3 ?_ | refine E.q ?_ | refine E.qs ?_ | refine E.q2 ?_ | refine E.q4 ?_ | refine E.tr ?_ | refine E.ap (fun _ _ => ?_) | refine E.b1 (fun _ _ => ?_) | refine E.b0 (fun _ _ => ?_) | refine E.bsn (fun _ _ => ?_) | refine E.mk (fun _ _ => ?_) | refine E.bxO (fun _ => ?_) | refine E.al (fun _ => ?_) | refine E.sbO ?_ | refine E.dq ?_ | refine E.ct ?_ | refine E.cf ?_ | refine E.cs (fun hh => ?_) (fun hh => ?_) | refine E.at_block_other rfl ?_)
    exact r1 (α := V1 × V1) (⟨vN, hN⟩, ⟨vE, hE⟩)
end E
end Go.Proofs.YtpiiapoafmnhhaaGreat
