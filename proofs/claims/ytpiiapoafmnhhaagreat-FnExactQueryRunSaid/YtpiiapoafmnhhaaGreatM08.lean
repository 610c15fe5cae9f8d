/- What is near, as the reference says it; views. -/
import Derived.Test.YtpiiapoafmnhhaaGreatM07
import Derived.Test.YtpiiapoafmnhhaaGreatM03
namespace Go.Proofs.YtpiiapoafmnhhaaGreat
namespace E
open Go Go.RowKit
set_option linter.unusedSimpArgs false
set_option linter.unusedVariables false
set_option maxHeartbeats 1000000
set_option maxRecDepth 10000
attribute [local irreducible] HC HL HQ HX HO At Y YV Opd Opds KnX Sl Ld Src GV RV Calls Code.wp eptr adr RdF ownF OneX HG LdC
theorem near_len (es : List Eg) (n : Nd) : (nearL es n).length ≤ es.length := by
  have : ∀ (es : List Eg) (acc : List Nd), (es.foldl (nearS n) acc).length ≤ acc.length + es.length := by
    intro es
    induction es with
    | nil => simp
    | cons e es ih =>
      intro acc
      have h1 := ih (nearS n acc e)
      have h2 : (nearS n acc e).length ≤ acc.length + 1 := by
        unfold nearS
        split
        · exact len_addN _ _
        · omega
      simp only [List.foldl_cons, List.length_cons]
      omega
  have := this es []
  simpa [nearL] using this
theorem c_l2Near {v u : Value} {es : List Eg} {l n : Int} (w : World) (he : ∀ e ∈ es, eok e = true) (hl : es.length ≤ 100000) (hr : RdF w u es := by exact rdA) (hv : v.oneCell' = true := by assumption) : Calls Tryz.prog 80 #[.agg #[v, u], .agg #[.int .i64 l, .int .i64 n]] w (Ret (fun s : Sv => .slice s.a s.n s.c) (fun s => [ownF 32 (.slice s.a s.n s.c) (nearL es ⟨l, n⟩)]) w) := by
  refine calls_sv ?_
  have m1 := hr.le
  have o1 := hr.one
  simp only [maxLen] at m1
  refine enter (args := _) Tryz.func80 rfl Tryz.ntmps80 (by simp) ?_
  repeat' (first | refine E.st ?_ | refine E.al (fun g5 => ?_) | refine E.q3 ?_ | refine E.q ?_ | refine E.qs ?_ | refine E.q2 ?_ | refine E.q4 ?_ | refine E.tr ?_ | refine E.ap (fun _ _ => ?_) | refine E.b1 (fun _ _ => ?_) | refine E.b0 (fun _ _ => ?_) | refine E.bsn (fun _ _ => ?_) | refine E.mk (fun _ _ => ?_) | refine E.bxO (fun _ => ?_) | refine E.al (fun _ => ?_) | refine E.sbO ?_ | refine E.dq ?_ | refine E.ct ?_ | refine E.cf ?_ | refine E.cs (fun hh => ?_) (fun hh => ?_) | refine E.at_block_other rfl ?_)
  refine E.nl 32 ?_
  refine lq (fun p : Nat × { v' : Value // v'.oneCell' = true } => p.1 ≤ es.length) (fun p => [(6, .pl (.int .i64 (p.1 : Int)))]) (fun p => [.box g5 45 [p.2.1, .slice none 0 0], ownF 32 p.2.1 (nearL (es.take p.1) ⟨l, n⟩)]) (fun p => es.length - p.1) (0, ⟨.slice none 0 0, rfl⟩) (Nat.zero_le _) (fun p hp => ?_)
  obtain ⟨k, ⟨v', hv'⟩⟩ := p
  dsimp only at hp ⊢
  have hacc := ord_nearL (es := es.take k) (n := ⟨l, n⟩) (fun e h => he e (List.mem_of_mem_take h))
  have hal := near_len (es.take k) ⟨l, n⟩
  have htk : (es.take k).length ≤ k := List.length_take_le _ _
  rcases Nat.lt_or_ge k es.length with hlt | hge
  · obtain ⟨x, hx⟩ := get_lt hlt
    have hst := nearL_step (n := ⟨l, n⟩) hx
    have hput := fun m => putN_ins (n := m) hacc
    repeat' (first | refine E.st ?_ | refine E.cl (h := fun _ w _ => c_s_l2At w) (k := ?_) | refine E.ckq (h := fun w hw => c_l2PutNode w hw (hu := by rfl)) (k := fun z => E.wy z.2 (fun hz => ?_)) | refine E.q3 ?_ | refine E.q ?_ | refine E.qs ?_ | refine E.q2 ?_ | refine E.q4 ?_ | refine E.tr ?_ | refine E.ap (fun _ _ => ?_) | refine E.b1 (fun _ _ => ?_) | refine E.b0 (fun _ _ => ?_) | refine E.bsn (fun _ _ => ?_) | refine E.mk (fun _ _ => ?_) | refine E.bxO (fun _ => ?_) | refine E.al (fun _ => ?_) | refine E.sbO ?_ | refine E.dq ?_ | refine E.ct ?_ | refine E.cf ?_ | refine E.cs (fun hh => ?_) (fun hh => ?_) | refine E.at_block_other rfl ?_)
    all_goals (refine rd (α := Nat × { v' : Value // v'.oneCell' = true }) (k + 1, ⟨_, ?_⟩) (by dsimp only; omega) (hK := KSub.pick pk (KSub.ownF pk ?_ ks)))
    all_goals first
      | assumption
      | skip
    all_goals
      dsimp only
      rw [hst]
      unfold nearS other
      have e1 : [x.a.l, x.a.n] = [l, n] ↔ x.a = ⟨l, n⟩ := by rw [← Decidable.not_iff_not]; exact nd_ne
      have e2 : [x.b.l, x.b.n] = [l, n] ↔ x.b = ⟨l, n⟩ := by rw [← Decidable.not_iff_not]; exact nd_ne
      have q1 := @pos_neg (nearL (es.take k) ⟨l, n⟩) x.b
      have q2 := @pos_neg (nearL (es.take k) ⟨l, n⟩) x.a
      have hp1 := hput x.b
      have hp2 := hput x.a
      have ea : ∀ (y : Nd), (⟨y.l, y.n⟩ : Nd) = y := fun y => rfl
      simp only [e1, e2, ea, q1, q2, Decidable.not_not] at *
      simp only [addN]
      simp [*]
  · repeat' (first | refine E.st ?_ | refine E.q3 ?_ | refine E.q ?_ | refine E.qs ?_ | refine E.q2 ?_ | refine E.q4 ?_ | refine E.tr ?_ | refine E.ap (fun _ _ => ?_) | refine E.b1 (fun _ _ => ?_) | refine E.b0 (fun _ _ => ?_) | refine E.bsn (fun _ _ => ?_) | refine E.mk (fun _ _ => ?_) | refine E.bxO (fun _ => ?_) | refine E.al (fun _ => ?_) | refine E.sbO ?_ | refine E.dq ?_ | refine E.ct ?_ | refine E.cf ?_ | refine E.cs (fun hh => ?_) (fun hh => ?_) | refine E.at_block_other rfl ?_)
    refine r1 _ (hK := KSub.ownF pk ?_ (KSub.nil _))
    rw [List.take_of_length_le hge]; rfl
end E
end Go.Proofs.YtpiiapoafmnhhaaGreat
/- What is done to a graph, and what is seen of it, as the reference says it. -/
namespace Go.Proofs.YtpiiapoafmnhhaaGreat
namespace E
open Go Go.RowKit
set_option linter.unusedSimpArgs false
set_option linter.unusedVariables false
set_option maxHeartbeats 1000000
set_option maxRecDepth 10000
attribute [local irreducible] HC HL HQ HX HO At Y YV Opd Opds KnX Sl Ld Src GV RV Calls Code.wp eptr adr RdF ownF OneX HG LdC
abbrev VV := { p : Value × Value // p.1.oneCell' = true ∧ p.2.oneCell' = true }
theorem calls_sv2 {P : Program} {α β : Type} [Flat α] [Flat β] {f : FuncId} {args : Array Value} {w : World} {e1 e2 : TypeId} {xs : List α} {ys : List β} {mk : Value → Value → Value} (h : Calls P f args w (Ret (fun z : VV => mk z.1.1 z.1.2) (fun z => [ownF e1 z.1.1 xs, ownF e2 z.1.2 ys]) w)) :
    Calls P f args w (Ret (fun z : Sv × Sv => mk (.slice z.1.a z.1.n z.1.c) (.slice z.2.a z.2.n z.2.c)) (fun z => [ownF e1 (.slice z.1.a z.1.n z.1.c) xs, ownF e2 (.slice z.2.a z.2.n z.2.c) ys]) w) := h.mono fun en w' ⟨v, he, hk⟩ => by
  obtain ⟨⟨v1, v2⟩, hv⟩ := v
  obtain ⟨s1, e1⟩ := ownF_sv (List.mem_cons_self) hk
  obtain ⟨s2, e2⟩ := ownF_sv (List.mem_cons_of_mem _ List.mem_cons_self) hk
  dsimp only at e1 e2 he hk
  subst e1; subst e2
  exact ⟨(s1, s2), he, hk⟩
theorem c_l2CopyS {v u : Value} {ns : List Nd} {es : List Eg} (w : World) (hr : RdF w v ns := by exact rdA) (hq : RdF w u es := by exact rdA) (hn : ns.length ≤ 1048576 := by omega) (he : es.length ≤ 1048576 := by omega) :
    Calls Tryz.prog 116 #[.agg #[v, u]] w (Ret (fun z : Sv × Sv => .agg #[.slice z.1.a z.1.n z.1.c, .slice z.2.a z.2.n z.2.c]) (fun z => [ownF 32 (.slice z.1.a z.1.n z.1.c) ns, ownF 84 (.slice z.2.a z.2.n z.2.c) es]) w) := calls_sv2 (mk := fun a b => .agg #[a, b]) (c_l2Copy w hr hq hn he)
theorem c_l2Off {v u : Value} {ns : List Nd} {es : List Eg} {l n : Int} (w : World) (hr : RdF w v ns := by exact rdA) (hq : RdF w u es := by exact rdA) (hl : ns.length ≤ 1000000 := by omega) (hl2 : es.length ≤ 1000000 := by omega) :
    Calls Tryz.prog 176 #[.agg #[v, u], .agg #[.int .i64 l, .int .i64 n]] w (Ret (fun z : Sv × Sv => .agg #[.slice z.1.a z.1.n z.1.c, .slice z.2.a z.2.n z.2.c]) (fun z => [ownF 32 (.slice z.1.a z.1.n z.1.c) (ns.filter (fun x => !decide (x = ⟨l, n⟩))), ownF 84 (.slice z.2.a z.2.n z.2.c) (es.filter (fun e => !decide (e.a = ⟨l, n⟩) && !decide (e.b = ⟨l, n⟩)))]) w) := by
  refine calls_sv2 (mk := fun a b => .agg #[a, b]) ?_
  have m1 := hr.le
  have o1 := hr.one
  have m2 := hq.le
  have o2 := hq.one
  simp only [maxLen] at m1 m2
  refine enter (args := _) Tryz.func176 rfl Tryz.ntmps176 (by simp) ?_
  repeat' (first | refine E.st ?_ | refine E.al (fun g5 => ?_) | refine E.b0 (fun v0 h0 => ?_) | refine E.q3 ?_ | refine E.q ?_ | refine E.qs ?_ | refine E.q2 ?_ | refine E.q4 ?_ | refine E.tr ?_ | refine E.ap (fun _ _ => ?_) | refine E.b1 (fun _ _ => ?_) | refine E.b0 (fun _ _ => ?_) | refine E.bsn (fun _ _ => ?_) | refine E.mk (fun _ _ => ?_) | refine E.bxO (fun _ => ?_) | refine E.al (fun _ => ?_) | refine E.sbO ?_ | refine E.dq ?_ | refine E.ct ?_ | refine E.cf ?_ | refine E.cs (fun hh => ?_) (fun hh => ?_) | refine E.at_block_other rfl ?_)
  rename_i g4 v1 h1
  refine lq (fun p : Nat × { v' : Value // v'.oneCell' = true } => p.1 ≤ ns.length) (fun p => [(6, .pl (.int .i64 (p.1 : Int)))]) (fun p => [.box g5 45 [p.2.1, v0], ownF 32 p.2.1 ((ns.take p.1).filter (fun x => !decide (x = ⟨l, n⟩)))]) (fun p => ns.length - p.1) (0, ⟨v1, h1⟩) (Nat.zero_le _) (fun p hp => ?_)
  obtain ⟨k, ⟨v', hv'⟩⟩ := p
  dsimp only at hp ⊢
  have hfl := filter_len (fun x => !decide (x = ⟨l, n⟩)) ns k
  rcases Nat.lt_or_ge k ns.length with hlt | hge
  · obtain ⟨x, hx⟩ := get_lt hlt
    have hst := take_filter_step (fun x => !decide (x = ⟨l, n⟩)) hx
    have hne := @nd_ne x l n
    repeat' (first | refine E.st ?_ | refine E.dxo v' [0, 1, 2, 3, 4, 5, 6, 7, 8, 9, 10] ?_ | refine E.q3 ?_ | refine E.q ?_ | refine E.qs ?_ | refine E.q2 ?_ | refine E.q4 ?_ | refine E.tr ?_ | refine E.ap (fun _ _ => ?_) | refine E.b1 (fun _ _ => ?_) | refine E.b0 (fun _ _ => ?_) | refine E.bsn (fun _ _ => ?_) | refine E.mk (fun _ _ => ?_) | refine E.bxO (fun _ => ?_) | refine E.al (fun _ => ?_) | refine E.sbO ?_ | refine E.dq ?_ | refine E.ct ?_ | refine E.cf ?_ | refine E.cs (fun hh => ?_) (fun hh => ?_) | refine E.at_block_other rfl ?_)
    all_goals (refine rd (α := Nat × { v' : Value // v'.oneCell' = true }) (k + 1, ⟨_, ?_⟩) (by dsimp only; omega) (hK := KSub.pick pk (KSub.ownF pk ?_ ks)))
    all_goals first
      | assumption
      | skip
    all_goals (dsimp only; rw [hst]; first | (simp_all; done) | grind)
  rw [List.take_of_length_le hge]
  repeat' (first | refine E.st ?_ | refine E.q3 ?_ | refine E.q ?_ | refine E.qs ?_ | refine E.q2 ?_ | refine E.q4 ?_ | refine E.tr ?_ | refine E.ap (fun _ _ => ?_) | refine E.b1 (fun _ _ => ?_) | refine E.b0 (fun _ _ => ?_) | refine E.bsn (fun _ _ => ?_) | refine E.mk (fun _ _ => ?_) | refine E.bxO (fun _ => ?_) | refine E.al (fun _ => ?_) | refine E.sbO ?_ | refine E.dq ?_ | refine E.ct ?_ | refine E.cf ?_ | refine E.cs (fun hh => ?_) (fun hh => ?_) | refine E.at_block_other rfl ?_)
  refine lq (fun p : Nat × { v' : Value // v'.oneCell' = true } => p.1 ≤ es.length) (fun p => [(7, .pl (.int .i64 (p.1 : Int)))]) (fun p => [.box g5 45 [v', p.2.1], ownF 84 p.2.1 ((es.take p.1).filter (fun e => !decide (e.a = ⟨l, n⟩) && !decide (e.b = ⟨l, n⟩)))]) (fun p => es.length - p.1) (0, ⟨v0, h0⟩) (Nat.zero_le _) (fun p hp => ?_)
  obtain ⟨k2, ⟨v2, hv2⟩⟩ := p
  dsimp only at hp ⊢
  have hfl := filter_len (fun e => !decide (e.a = ⟨l, n⟩) && !decide (e.b = ⟨l, n⟩)) es k2
  rcases Nat.lt_or_ge k2 es.length with hlt | hge
  · obtain ⟨x, hx⟩ := get_lt hlt
    have hst := take_filter_step (fun e => !decide (e.a = ⟨l, n⟩) && !decide (e.b = ⟨l, n⟩)) hx
    have hne := @eg_ab x l n
    have hne2 := @nd_ne x.b l n
    repeat' (first | refine E.st ?_ | refine E.dxo v2 [0, 1, 2, 3, 4, 5, 6, 7, 8, 9, 10] ?_ | refine E.q3 ?_ | refine E.q ?_ | refine E.qs ?_ | refine E.q2 ?_ | refine E.q4 ?_ | refine E.tr ?_ | refine E.ap (fun _ _ => ?_) | refine E.b1 (fun _ _ => ?_) | refine E.b0 (fun _ _ => ?_) | refine E.bsn (fun _ _ => ?_) | refine E.mk (fun _ _ => ?_) | refine E.bxO (fun _ => ?_) | refine E.al (fun _ => ?_) | refine E.sbO ?_ | refine E.dq ?_ | refine E.ct ?_ | refine E.cf ?_ | refine E.cs (fun hh => ?_) (fun hh => ?_) | refine E.at_block_other rfl ?_)
    all_goals (refine rd (α := Nat × { v' : Value // v'.oneCell' = true }) (k2 + 1, ⟨_, ?_⟩) (by dsimp only; omega) (hK := KSub.pick pk (KSub.ownF pk ?_ ks)))
    all_goals first
      | assumption
      | skip
    all_goals (dsimp only; rw [hst]; first | (simp_all; done) | grind)
  rw [List.take_of_length_le hge]
  repeat' (first | refine E.st ?_ | refine E.q3 ?_ | refine E.q ?_ | refine E.qs ?_ | refine E.q2 ?_ | refine E.q4 ?_ | refine E.tr ?_ | refine E.ap (fun _ _ => ?_) | refine E.b1 (fun _ _ => ?_) | refine E.b0 (fun _ _ => ?_) | refine E.bsn (fun _ _ => ?_) | refine E.mk (fun _ _ => ?_) | refine E.bxO (fun _ => ?_) | refine E.al (fun _ => ?_) | refine E.sbO ?_ | refine E.dq ?_ | refine E.ct ?_ | refine E.cf ?_ | refine E.cs (fun hh => ?_) (fun hh => ?_) | refine E.at_block_other rfl ?_)
  refine r1 (α := VV) ⟨(_, _), ?_⟩ (hK := KSub.ownF pk ?_ (KSub.ownF pk ?_ (KSub.nil _)))
  · exact ⟨by assumption, by assumption⟩
  · rfl
  · rfl
end E
end Go.Proofs.YtpiiapoafmnhhaaGreat
/- What is done to a graph, as the reference says it: the third part. -/
namespace Go.Proofs.YtpiiapoafmnhhaaGreat
namespace E
open Go Go.RowKit
set_option linter.unusedSimpArgs false
set_option linter.unusedVariables false
set_option maxHeartbeats 1000000
set_option maxRecDepth 10000
attribute [local irreducible] HC HL HQ HX HO At Y YV Opd Opds KnX Sl Ld Src GV RV Calls Code.wp eptr adr RdF ownF OneX HG LdC
theorem c_l2Cut {v u : Value} {es : List Eg} {l al an bl bn : Int} (w : World) (hq : RdF w u es := by exact rdA) (ho : v.oneCell' = true := by assumption) (hl2 : es.length ≤ 1000000 := by omega) :
    Calls Tryz.prog 175 #[.agg #[v, u], .agg #[.int .i64 l, .int .i64 al, .int .i64 an, .int .i64 bl, .int .i64 bn]] w (Ret (fun s : Sv => .agg #[v, .slice s.a s.n s.c]) (fun s => [ownF 84 (.slice s.a s.n s.c) (es.filter (fun e => !decide (e = ⟨l, ⟨al, an⟩, ⟨bl, bn⟩⟩)))]) w) := by
  refine calls_svm (mk := fun u => .agg #[v, u]) (Kr := []) ?_
  have m2 := hq.le
  have o2 := hq.one
  simp only [maxLen] at m2
  refine enter (args := _) Tryz.func175 rfl Tryz.ntmps175 (by simp) ?_
  repeat' (first | refine E.st ?_ | refine E.q3 ?_ | refine E.q ?_ | refine E.qs ?_ | refine E.q2 ?_ | refine E.q4 ?_ | refine E.tr ?_ | refine E.ap (fun _ _ => ?_) | refine E.b1 (fun _ _ => ?_) | refine E.b0 (fun _ _ => ?_) | refine E.bsn (fun _ _ => ?_) | refine E.mk (fun _ _ => ?_) | refine E.bxO (fun _ => ?_) | refine E.al (fun _ => ?_) | refine E.sbO ?_ | refine E.dq ?_ | refine E.ct ?_ | refine E.cf ?_ | refine E.cs (fun hh => ?_) (fun hh => ?_) | refine E.at_block_other rfl ?_)
  rename_i v1 h1
  refine lq (fun p : Nat × { v' : Value // v'.oneCell' = true } => p.1 ≤ es.length) (fun p => [(5, .pl p.2.1), (6, .pl (.int .i64 (p.1 : Int)))]) (fun p => [ownF 84 p.2.1 ((es.take p.1).filter (fun e => !decide (e = ⟨l, ⟨al, an⟩, ⟨bl, bn⟩⟩)))]) (fun p => es.length - p.1) (0, ⟨v1, h1⟩) (Nat.zero_le _) (fun p hp => ?_)
  obtain ⟨k, ⟨v', hv'⟩⟩ := p
  dsimp only at hp ⊢
  have hfl := filter_len (fun e => !decide (e = (⟨l, ⟨al, an⟩, ⟨bl, bn⟩⟩ : Eg))) es k
  rcases Nat.lt_or_ge k es.length with hlt | hge
  · obtain ⟨x, hx⟩ := get_lt hlt
    have hst := take_filter_step (fun e => !decide (e = (⟨l, ⟨al, an⟩, ⟨bl, bn⟩⟩ : Eg))) hx
    have hne := @eg_ne' x l al an bl bn
    repeat' (first | refine E.st ?_ | refine E.q3 ?_ | refine E.q ?_ | refine E.qs ?_ | refine E.q2 ?_ | refine E.q4 ?_ | refine E.tr ?_ | refine E.ap (fun _ _ => ?_) | refine E.b1 (fun _ _ => ?_) | refine E.b0 (fun _ _ => ?_) | refine E.bsn (fun _ _ => ?_) | refine E.mk (fun _ _ => ?_) | refine E.bxO (fun _ => ?_) | refine E.al (fun _ => ?_) | refine E.sbO ?_ | refine E.dq ?_ | refine E.ct ?_ | refine E.cf ?_ | refine E.cs (fun hh => ?_) (fun hh => ?_) | refine E.at_block_other rfl ?_)
    · rename_i v3 h3
      refine rd (k + 1, ⟨v3, h3⟩) (by dsimp only; omega) (hK := KSub.ownF pk ?_ ks)
      dsimp only; rw [hst]; first | (simp_all; done) | grind
    · refine rd (k + 1, ⟨v', hv'⟩) (by dsimp only; omega) (hK := KSub.ownF pk ?_ ks)
      dsimp only; rw [hst]; first | (simp_all; done) | grind
  rw [List.take_of_length_le hge]
  repeat' (first | refine E.st ?_ | refine E.q3 ?_ | refine E.q ?_ | refine E.qs ?_ | refine E.q2 ?_ | refine E.q4 ?_ | refine E.tr ?_ | refine E.ap (fun _ _ => ?_) | refine E.b1 (fun _ _ => ?_) | refine E.b0 (fun _ _ => ?_) | refine E.bsn (fun _ _ => ?_) | refine E.mk (fun _ _ => ?_) | refine E.bxO (fun _ => ?_) | refine E.al (fun _ => ?_) | refine E.sbO ?_ | refine E.dq ?_ | refine E.ct ?_ | refine E.cf ?_ | refine E.cs (fun hh => ?_) (fun hh => ?_) | refine E.at_block_other rfl ?_)
  exact r1 _
/-- Two slices that read under chunks. -/
def Rd2 (w0 : World) (K : List Ck) (v u : Value) (g : Gr) : Prop := RdIn w0 K v g.ns ∧ RdIn w0 K u g.es ∧ v.oneCell' = true ∧ u.oneCell' = true
theorem KSub.mid {X C M L : List Ck} (h : KSub X (C ++ (M ++ L))) : KSub X (M ++ (C ++ L)) := by
  obtain ⟨R, hp⟩ := h.perm
  refine KSub.ofPerm2 _ _ R (hp.trans (List.Perm.append_right R ?_))
  rw [← List.append_assoc, ← List.append_assoc]
  exact List.Perm.append_right L List.perm_append_comm
end E
end Go.Proofs.YtpiiapoafmnhhaaGreat
/- The walks, as the reference says them. -/
namespace Go.Proofs.YtpiiapoafmnhhaaGreat
namespace E
open Go Go.RowKit
set_option linter.unusedSimpArgs false
set_option linter.unusedVariables false
set_option maxHeartbeats 1000000
set_option maxRecDepth 10000
attribute [local irreducible] HC HL HQ HX HO At Y YV Opd Opds KnX Sl Ld Src GV RV Calls Code.wp eptr adr RdF ownF OneX HG LdC
abbrev V1 := { v' : Value // v'.oneCell' = true }
/-- The nodes at places. -/
def ndL (ns : List Nd) (is : List Nat) : List Nd := is.map (fun i => ns.getD i ⟨0, 0⟩)
theorem ndL_len {ns : List Nd} {is : List Nat} : (ndL ns is).length = is.length := by simp [ndL]
theorem ndL_get {ns : List Nd} {is : List Nat} {k i : Nat} {x : Nd} (h : is[k]? = some i) (hx : ns[i]? = some x) : (ndL ns is)[k]? = some x := by
  simp [ndL, h, List.getD_eq_getElem?_getD, hx]
theorem ndL_snoc {ns : List Nd} {is : List Nat} {i : Nat} {x : Nd} (hx : ns[i]? = some x) : ndL ns (is ++ [i]) = ndL ns is ++ [x] := by
  simp [ndL, List.getD_eq_getElem?_getD, hx]
theorem getD_at {α : Type} {xs : List α} {i : Nat} {d : α} (h : i < xs.length) : xs[i]? = some (xs.getD i d) := by
  simp [List.getD_eq_getElem?_getD, h]
theorem c_l2At_m {v u : Value} {ns : List Nd} {l n : Int} (w : World) (hm : (⟨l, n⟩ : Nd) ∈ ns) (hr : RdF w v ns := by exact rdA) : Calls Tryz.prog 88 #[.agg #[v, u], .agg #[.int .i64 l, .int .i64 n]] w (Ret (fun _ : Unit => .int .i64 ((plc ns ⟨l, n⟩ : Nat) : Int)) (fun _ => []) w) := by
  have := c_s_l2At (u := u) (l := l) (n := n) w hr
  rwa [(plc_ok hm).1] at this
/-- One row of the search, step by step. -/
theorem row_walk {n i0 i k : Nat} {adj : List (List Nat)} {s : Bf} (ha : AOk n adj) (h : BI n i0 s) (hk : s.mt[k]? = some i) : ∃ S : Nat → Bf, S 0 = s ∧ (∀ j o, (adj.getD i [])[j]? = some o → S (j + 1) = bfIn (s.st.getD i 0) (S j) o) ∧ (∀ j, BI n i0 (S j) ∧ s.mt.length ≤ (S j).mt.length) ∧ ∀ j, (adj.getD i []).length ≤ j → S j = bfRow adj s i := by
  have hi := h.at hk
  have hrow : ∀ o ∈ adj.getD i [], o < n := by
    intro o ho
    have hlt : i < adj.length := by rw [ha.1]; exact hi.1
    exact ((ha.2 i _ (getD_at (d := []) hlt)).1 o ho).1
  refine ⟨fun j => ((adj.getD i []).take j).foldl (bfIn (s.st.getD i 0)) s, rfl, fun j o ho => foldl_take_succ _ _ ho, fun j => ?_, fun j hj => ?_⟩
  · have := BI.fold ((adj.getD i []).take j) h hi.2 (fun o ho => hrow o (List.mem_of_mem_take ho))
    exact ⟨this.1, this.2.1⟩
  · dsimp only
    rw [List.take_of_length_le hj]
    rfl
theorem c_l3Dist {v u : Value} {g : Gr} {l n : Int} (w : World) (hg : g.ok) (hm : (⟨l, n⟩ : Nd) ∈ g.ns) (hr : RdF w v g.ns := by exact rdA) (hq : RdF w u g.es := by exact rdA) :
    Calls Tryz.prog 143 #[.agg #[v, u], .agg #[.int .i64 l, .int .i64 n]] w (Ret (fun z : V1 => z.1) (fun z => [ownF 3 z.1 (distL g ⟨l, n⟩)]) w) := by
  have o1 := hr.one
  have o2 := hq.one
  have hnl := hg.1.len
  have hel := hg.2.len
  have hA := AOk.of hg
  have hp := plc_ok hm
  have he : ∀ e ∈ g.es, eok e = true := fun e h => (hg.2.1 e h).1
  have hB0 := BI.zero hp.2.2
  refine enter (args := _) Tryz.func143 rfl Tryz.ntmps143 (by simp) ?_
  repeat' (first | refine E.st ?_ | refine E.b0 (α := Int) (fun v5 h5 => ?_) | refine E.q3 ?_ | refine E.q ?_ | refine E.qs ?_ | refine E.q2 ?_ | refine E.q4 ?_ | refine E.tr ?_ | refine E.ap (fun _ _ => ?_) | refine E.b1 (fun _ _ => ?_) | refine E.b0 (fun _ _ => ?_) | refine E.bsn (fun _ _ => ?_) | refine E.mk (fun _ _ => ?_) | refine E.bxO (fun _ => ?_) | refine E.al (fun _ => ?_) | refine E.sbO ?_ | refine E.dq ?_ | refine E.ct ?_ | refine E.cf ?_ | refine E.cs (fun hh => ?_) (fun hh => ?_) | refine E.at_block_other rfl ?_)
  refine lq (fun z : Nat × V1 => z.1 ≤ g.ns.length) (fun z => [(6, .pl (.int .i64 (z.1 : Int))), (5, .pl z.2.1)]) (fun z => [ownF 3 z.2.1 (List.replicate z.1 (-1 : Int))]) (fun z => g.ns.length - z.1) (0, ⟨v5, h5⟩) (Nat.zero_le _) (fun z hz => ?_)
  obtain ⟨k, ⟨v5, h5⟩⟩ := z
  dsimp only at hz ⊢
  have hlr : (List.replicate k (-1 : Int)).length = k := List.length_replicate
  rcases Nat.lt_or_ge k g.ns.length with hlt | hge
  · repeat' (first | refine E.st ?_ | refine E.q3 ?_ | refine E.q ?_ | refine E.qs ?_ | refine E.q2 ?_ | refine E.q4 ?_ | refine E.tr ?_ | refine E.ap (fun _ _ => ?_) | refine E.b1 (fun _ _ => ?_) | refine E.b0 (fun _ _ => ?_) | refine E.bsn (fun _ _ => ?_) | refine E.mk (fun _ _ => ?_) | refine E.bxO (fun _ => ?_) | refine E.al (fun _ => ?_) | refine E.sbO ?_ | refine E.dq ?_ | refine E.ct ?_ | refine E.cf ?_ | refine E.cs (fun hh => ?_) (fun hh => ?_) | refine E.at_block_other rfl ?_)
    refine rd (α := Nat × V1) (k + 1, ⟨_, ?_⟩) hlt (hK := KSub.ownF pk (by rw [List.replicate_succ']) ks)
    assumption
  have hke : k = g.ns.length := by omega
  subst hke
  have hg0 : (List.replicate g.ns.length (-1 : Int))[plc g.ns ⟨l, n⟩]? = some (-1) := by simp [List.getElem?_replicate, hp.2.2]
  repeat' (first | refine E.st ?_ | refine E.cl (h := fun _ w _ => c_l2At_m w hm) (k := ?_) | refine E.b1 (α := Nd) (fun v7 h7 => ?_) | refine E.q3 ?_ | refine E.q ?_ | refine E.qs ?_ | refine E.q2 ?_ | refine E.q4 ?_ | refine E.tr ?_ | refine E.ap (fun _ _ => ?_) | refine E.b1 (fun _ _ => ?_) | refine E.b0 (fun _ _ => ?_) | refine E.bsn (fun _ _ => ?_) | refine E.mk (fun _ _ => ?_) | refine E.bxO (fun _ => ?_) | refine E.al (fun _ => ?_) | refine E.sbO ?_ | refine E.dq ?_ | refine E.ct ?_ | refine E.cf ?_ | refine E.cs (fun hh => ?_) (fun hh => ?_) | refine E.at_block_other rfl ?_)
  have hst0 : (List.replicate g.ns.length (-1 : Int)).set (plc g.ns ⟨l, n⟩) 0 = (bf0 g.ns.length (plc g.ns ⟨l, n⟩)).st := rfl
  have hmt0 : [⟨l, n⟩] = ndL g.ns (bf0 g.ns.length (plc g.ns ⟨l, n⟩)).mt := by
    have := ndL_snoc (is := []) hp.2.1
    exact this.symm
  refine lq (fun z : (Nat × Bf) × V1 => (BI g.ns.length (plc g.ns ⟨l, n⟩) z.1.2 ∧ z.1.1 ≤ z.1.2.mt.length) ∧ bfGo (adjL g) (g.ns.length - z.1.1) z.1.1 z.1.2 = bfs (adjL g) g.ns.length (plc g.ns ⟨l, n⟩)) (fun z => [(8, .pl (.int .i64 (z.1.1 : Int))), (7, .pl z.2.1)]) (fun z => [ownF 3 v5 z.1.2.st, ownF 32 z.2.1 (ndL g.ns z.1.2.mt)]) (fun z => g.ns.length - z.1.1) ((0, bf0 g.ns.length (plc g.ns ⟨l, n⟩)), ⟨v7, h7⟩) ⟨⟨hB0, Nat.zero_le _⟩, rfl⟩ (fun z hz => ?_) (hK := Spl.ownF pk hst0 (Spl.ownF pk hmt0 (Spl.nil _)))
  obtain ⟨⟨k, s⟩, ⟨v7, h7⟩⟩ := z
  obtain ⟨⟨hB, hk⟩, hgo⟩ := hz
  dsimp only at hB hk hgo ⊢
  have hml := hB.mlen
  have hl7 : (ndL g.ns s.mt).length = s.mt.length := ndL_len
  have hsl := hB.len
  rcases Nat.lt_or_ge k s.mt.length with hlt | hge2
  · obtain ⟨i, hi⟩ := get_lt hlt
    have hat := hB.at hi
    obtain ⟨⟨xl, xn⟩, hx⟩ := get_lt hat.1
    have hxm := List.mem_of_getElem? hx
    have hpx := plc_at hg.1.nodup hx
    have hx7 := ndL_get hi hx
    have hxs : s.st[plc g.ns ⟨xl, xn⟩]? = some (s.st.getD i 0) := by rw [hpx]; exact getD_at (by omega)
    have hadj := adj_get hx
    have hrow : (adjL g).getD i [] = (nearL g.es ⟨xl, xn⟩).map (plc g.ns) := by rw [List.getD_eq_getElem?_getD, hadj]; rfl
    have hnl2 := near_len g.es ⟨xl, xn⟩
    obtain ⟨S, hS0, hSs, hSB, hSe⟩ := row_walk hA hB hi
    rw [hrow] at hSs hSe
    have hgo2 : bfGo (adjL g) (g.ns.length - (k + 1)) (k + 1) (bfRow (adjL g) s i) = bfs (adjL g) g.ns.length (plc g.ns ⟨l, n⟩) := by
      rw [← hgo, show g.ns.length - k = (g.ns.length - (k + 1)) + 1 from by omega, bfGo_step hi]
    have hd := hat.2
    have hpl : plc g.ns ⟨xl, xn⟩ < s.st.length := by omega
    generalize s.st.getD i 0 = d at hxs hSs hd
    repeat' (first | refine E.st ?_ | refine E.dx [0, 1, 2, 3, 4, 5, 6] ?_ | refine E.cm (h := fun w _ => c_l2Near w he (by omega)) (k := fun v9 => ?_) | refine E.cl (h := fun _ w _ => c_l2At_m w hxm) (k := ?_)  | refine E.q3 ?_ | refine E.q ?_ | refine E.qs ?_ | refine E.q2 ?_ | refine E.q4 ?_ | refine E.tr ?_ | refine E.ap (fun _ _ => ?_) | refine E.b1 (fun _ _ => ?_) | refine E.b0 (fun _ _ => ?_) | refine E.bsn (fun _ _ => ?_) | refine E.mk (fun _ _ => ?_) | refine E.bxO (fun _ => ?_) | refine E.al (fun _ => ?_) | refine E.sbO ?_ | refine E.dq ?_ | refine E.ct ?_ | refine E.cf ?_ | refine E.cs (fun hh => ?_) (fun hh => ?_) | refine E.at_block_other rfl ?_)
    refine lq (fun z : Nat × V1 => z.1 ≤ (nearL g.es ⟨xl, xn⟩).length) (fun z => [(11, .pl (.int .i64 (z.1 : Int))), (7, .pl z.2.1)]) (fun z => [ownF 3 v5 (S z.1).st, ownF 32 z.2.1 (ndL g.ns (S z.1).mt)]) (fun z => (nearL g.es ⟨xl, xn⟩).length - z.1) (0, ⟨v7, h7⟩) (Nat.zero_le _) (fun z hz => ?_) (hK := Spl.ownF pk (by rw [hS0]) (Spl.ownF pk (by rw [hS0]) (Spl.nil _)))
    obtain ⟨j, ⟨u7, g7⟩⟩ := z
    dsimp only at hz g7 ⊢
    obtain ⟨hBj, hlj⟩ := hSB j
    have hmj := hBj.mlen
    have hsj := hBj.len
    have hl8 : (ndL g.ns (S j).mt).length = (S j).mt.length := ndL_len
    rcases Nat.lt_or_ge j (nearL g.es ⟨xl, xn⟩).length with hlt3 | hge3
    · obtain ⟨⟨yl, yn⟩, hy⟩ := get_lt hlt3
      have hym := (near_mem_ns hg (List.mem_of_getElem? hy)).1
      have hpy := plc_ok hym
      have hyl : plc g.ns ⟨yl, yn⟩ < (S j).st.length := by omega
      have hys : (S j).st[plc g.ns ⟨yl, yn⟩]? = some ((S j).st.getD (plc g.ns ⟨yl, yn⟩) 0) := getD_at hyl
      have hstep := hSs j (plc g.ns ⟨yl, yn⟩) (by rw [List.getElem?_map, hy]; rfl)
      unfold bfIn at hstep
      have hsn := ndL_snoc (is := (S j).mt) hpy.2.1
      generalize (S j).st.getD (plc g.ns ⟨yl, yn⟩) 0 = c at hys hstep
      repeat' (first | refine E.st ?_ | refine E.cl (h := fun _ w _ => c_l2At_m w hym) (k := ?_)  | refine E.q3 ?_ | refine E.q ?_ | refine E.qs ?_ | refine E.q2 ?_ | refine E.q4 ?_ | refine E.tr ?_ | refine E.ap (fun _ _ => ?_) | refine E.b1 (fun _ _ => ?_) | refine E.b0 (fun _ _ => ?_) | refine E.bsn (fun _ _ => ?_) | refine E.mk (fun _ _ => ?_) | refine E.bxO (fun _ => ?_) | refine E.al (fun _ => ?_) | refine E.sbO ?_ | refine E.dq ?_ | refine E.ct ?_ | refine E.cf ?_ | refine E.cs (fun hh => ?_) (fun hh => ?_) | refine E.at_block_other rfl ?_)
      · rw [if_pos (by assumption)] at hstep
        refine rd (α := Nat × V1) (j + 1, ⟨_, ?_⟩) hlt3 (hK := KSub.ownF pk (by rw [hstep]) (KSub.ownF pk (by rw [hstep]; exact hsn.symm) ks))
        assumption
      · rw [if_neg (by assumption)] at hstep
        exact rd (α := Nat × V1) (j + 1, ⟨_, g7⟩) hlt3 (hK := KSub.ownF pk (by rw [hstep]) (KSub.ownF pk (by rw [hstep]) ks))
    · repeat' (first | refine E.st ?_ | refine E.q3 ?_ | refine E.q ?_ | refine E.qs ?_ | refine E.q2 ?_ | refine E.q4 ?_ | refine E.tr ?_ | refine E.ap (fun _ _ => ?_) | refine E.b1 (fun _ _ => ?_) | refine E.b0 (fun _ _ => ?_) | refine E.bsn (fun _ _ => ?_) | refine E.mk (fun _ _ => ?_) | refine E.bxO (fun _ => ?_) | refine E.al (fun _ => ?_) | refine E.sbO ?_ | refine E.dq ?_ | refine E.ct ?_ | refine E.cf ?_ | refine E.cs (fun hh => ?_) (fun hh => ?_) | refine E.at_block_other rfl ?_)
      have hej := hSe j (by simpa using hge3)
      refine rd (α := (Nat × Bf) × V1) ((k + 1, bfRow (adjL g) s i), ⟨u7, g7⟩) ⟨⟨by rw [← hej]; exact hBj, by rw [← hej]; dsimp only; omega⟩, hgo2⟩ (hK := KSub.ownF pk (by rw [hej]) (KSub.ownF pk (by rw [hej]) ks))
  · repeat' (first | refine E.st ?_ | refine E.q3 ?_ | refine E.q ?_ | refine E.qs ?_ | refine E.q2 ?_ | refine E.q4 ?_ | refine E.tr ?_ | refine E.ap (fun _ _ => ?_) | refine E.b1 (fun _ _ => ?_) | refine E.b0 (fun _ _ => ?_) | refine E.bsn (fun _ _ => ?_) | refine E.mk (fun _ _ => ?_) | refine E.bxO (fun _ => ?_) | refine E.al (fun _ => ?_) | refine E.sbO ?_ | refine E.dq ?_ | refine E.ct ?_ | refine E.cf ?_ | refine E.cs (fun hh => ?_) (fun hh => ?_) | refine E.at_block_other rfl ?_)
    have hend : s = bfs (adjL g) g.ns.length (plc g.ns ⟨l, n⟩) := by rw [← hgo, bfGo_end _ _ _ hge2]
    refine r1 (α := V1) ⟨v5, h5⟩ (hK := KSub.ownF pk ?_ (KSub.nil _))
    rw [hend]
    exact (if_pos hm).symm
theorem gok_t {g : Gr} (h : g.ok) : gok g.ns g.es = true := Gr.ok_iff.1 h
theorem gok_f {g : Gr} (h : ¬ g.ok) : gok g.ns g.es = false := by rw [Gr.ok_iff] at h; simpa using h
theorem c_s_GraphOk_t {v u : Value} {ns : List Nd} {es : List Eg} (w : World) (h : gok ns es = true) (hr : RdF w v ns := by exact rdA) (hq : RdF w u es := by exact rdA) : Calls Tryz.prog 28 #[.agg #[v, u]] w (Ret (fun _ : Unit => .bool true) (fun _ => []) w) := by
  have := c_s_GraphOk w hr hq
  rwa [h] at this
theorem c_s_GraphOk_f {v u : Value} {ns : List Nd} {es : List Eg} (w : World) (h : gok ns es = false) (hr : RdF w v ns := by exact rdA) (hq : RdF w u es := by exact rdA) : Calls Tryz.prog 28 #[.agg #[v, u]] w (Ret (fun _ : Unit => .bool false) (fun _ => []) w) := by
  have := c_s_GraphOk w hr hq
  rwa [h] at this
theorem c_WalkDist {v u : Value} {g : Gr} {l n : Int} (w : World) (hr : RdF w v g.ns := by exact rdA) (hq : RdF w u g.es := by exact rdA) :
    Calls Tryz.prog 81 #[.agg #[v, u], .agg #[.int .i64 l, .int .i64 n]] w (Ret (fun z : V1 => z.1) (fun z => [ownF 3 z.1 (if g.ok then distL g ⟨l, n⟩ else [])]) w) := by
  have o1 := hr.one
  have o2 := hq.one
  by_cases hg : g.ok
  · have hgt := gok_t hg
    rw [if_pos hg]
    by_cases hm : (⟨l, n⟩ : Nd) ∈ g.ns
    · refine enter (args := _) Tryz.func81 rfl Tryz.ntmps81 (by simp) ?_
      repeat' (first | refine E.st ?_ | refine E.cl (h := fun _ w _ => c_s_GraphOk_t w hgt) (k := ?_) | refine E.cl (h := fun _ w _ => c_l2At_m w hm) (k := ?_) | refine E.cm (h := fun w _ => c_l3Dist w hg hm) (k := fun z => E.wy z.2 (fun _ => ?_)) | refine E.q3 ?_ | refine E.q ?_ | refine E.qs ?_ | refine E.q2 ?_ | refine E.q4 ?_ | refine E.tr ?_ | refine E.ap (fun _ _ => ?_) | refine E.b1 (fun _ _ => ?_) | refine E.b0 (fun _ _ => ?_) | refine E.bsn (fun _ _ => ?_) | refine E.mk (fun _ _ => ?_) | refine E.bxO (fun _ => ?_) | refine E.al (fun _ => ?_) | refine E.sbO ?_ | refine E.dq ?_ | refine E.ct ?_ | refine E.cf ?_ | refine E.cs (fun hh => ?_) (fun hh => ?_) | refine E.at_block_other rfl ?_)
      all_goals first
        | exact r1 (α := V1) ⟨_, by assumption⟩
        | (exfalso; simp only [false_or] at hh; omega)
        | (exfalso; omega)
        | (exfalso; simp only [Bool.not_true, Bool.not_false, Bool.false_or, Bool.true_or, decide_eq_true_eq, not_true_eq_false] at *; omega)
        | (exfalso; simp_all; done)
    · have hp : pos g.ns ⟨l, n⟩ < 0 := by rw [pos_none hm]; omega
      have hd : distL g ⟨l, n⟩ = [] := if_neg hm
      rw [hd]
      refine enter (args := _) Tryz.func81 rfl Tryz.ntmps81 (by simp) ?_
      repeat' (first | refine E.st ?_ | refine E.cl (h := fun _ w _ => c_s_GraphOk_t w hgt) (k := ?_) | refine E.cl (h := fun _ w _ => c_s_l2At w) (k := ?_) | refine E.b0 (α := Int) (fun v5 h5 => ?_) | refine E.q3 ?_ | refine E.q ?_ | refine E.qs ?_ | refine E.q2 ?_ | refine E.q4 ?_ | refine E.tr ?_ | refine E.ap (fun _ _ => ?_) | refine E.b1 (fun _ _ => ?_) | refine E.b0 (fun _ _ => ?_) | refine E.bsn (fun _ _ => ?_) | refine E.mk (fun _ _ => ?_) | refine E.bxO (fun _ => ?_) | refine E.al (fun _ => ?_) | refine E.sbO ?_ | refine E.dq ?_ | refine E.ct ?_ | refine E.cf ?_ | refine E.cs (fun hh => ?_) (fun hh => ?_) | refine E.at_block_other rfl ?_)
      all_goals first
        | exact r1 (α := V1) ⟨_, by assumption⟩
        | (exfalso; simp only [false_or] at hh; omega)
        | (exfalso; omega)
        | (exfalso; simp only [Bool.not_true, Bool.not_false, Bool.false_or, Bool.true_or, decide_eq_true_eq, not_true_eq_false] at *; omega)
        | (exfalso; simp_all; done)
  · have hgf := gok_f hg
    rw [if_neg hg]
    refine enter (args := _) Tryz.func81 rfl Tryz.ntmps81 (by simp) ?_
    repeat' (first | refine E.st ?_ | refine E.cl (h := fun _ w _ => c_s_GraphOk_f w hgf) (k := ?_) | refine E.cl (h := fun _ w _ => c_s_l2At w) (k := ?_) | refine E.b0 (α := Int) (fun v5 h5 => ?_) | refine E.q3 ?_ | refine E.q ?_ | refine E.qs ?_ | refine E.q2 ?_ | refine E.q4 ?_ | refine E.tr ?_ | refine E.ap (fun _ _ => ?_) | refine E.b1 (fun _ _ => ?_) | refine E.b0 (fun _ _ => ?_) | refine E.bsn (fun _ _ => ?_) | refine E.mk (fun _ _ => ?_) | refine E.bxO (fun _ => ?_) | refine E.al (fun _ => ?_) | refine E.sbO ?_ | refine E.dq ?_ | refine E.ct ?_ | refine E.cf ?_ | refine E.cs (fun hh => ?_) (fun hh => ?_) | refine E.at_block_other rfl ?_)
    all_goals first
        | exact r1 (α := V1) ⟨_, by assumption⟩
        | (exfalso; simp only [false_or] at hh; omega)
        | (exfalso; omega)
        | (exfalso; simp only [Bool.not_true, Bool.not_false, Bool.false_or, Bool.true_or, decide_eq_true_eq, not_true_eq_false] at *; omega)
        | (exfalso; simp_all; done)
def leftN (left : List Bool) (g : Gr) (x : Nd) : Nat := stays left ((nearL g.es x).map (plc g.ns))
theorem c_l3Left {v u b : Value} {g : Gr} {left : List Bool} {l n : Int} (w : World) (hg : g.ok) (hm : (⟨l, n⟩ : Nd) ∈ g.ns) (hl : left.length = g.ns.length) (hr : RdF w v g.ns := by exact rdA) (hq : RdF w u g.es := by exact rdA) (hb : RdF w b left := by exact rdA) :
    Calls Tryz.prog 188 #[.agg #[v, u], b, .agg #[.int .i64 l, .int .i64 n]] w (Ret (fun _ : Unit => .int .i64 ((leftN left g ⟨l, n⟩ : Nat) : Int)) (fun _ => []) w) := by
  have o1 := hr.one
  have o2 := hq.one
  have o3 := hb.one
  have hnl := hg.1.len
  have hel := hg.2.len
  have he : ∀ e ∈ g.es, eok e = true := fun e h => (hg.2.1 e h).1
  have hnl2 := near_len g.es ⟨l, n⟩
  refine enter (args := _) Tryz.func188 rfl Tryz.ntmps188 (by simp) ?_
  repeat' (first | refine E.st ?_ | refine E.cm (h := fun w _ => c_l2Near w he (by omega)) (k := fun v7 => ?_) | refine E.q3 ?_ | refine E.q ?_ | refine E.qs ?_ | refine E.q2 ?_ | refine E.q4 ?_ | refine E.tr ?_ | refine E.ap (fun _ _ => ?_) | refine E.b1 (fun _ _ => ?_) | refine E.b0 (fun _ _ => ?_) | refine E.bsn (fun _ _ => ?_) | refine E.mk (fun _ _ => ?_) | refine E.bxO (fun _ => ?_) | refine E.al (fun _ => ?_) | refine E.sbO ?_ | refine E.dq ?_ | refine E.ct ?_ | refine E.cf ?_ | refine E.cs (fun hh => ?_) (fun hh => ?_) | refine E.at_block_other rfl ?_)
  refine lq (fun j : Nat => j ≤ (nearL g.es ⟨l, n⟩).length) (fun j => [(9, .pl (.int .i64 (j : Int))), (8, .pl (.int .i64 ((stays left (((nearL g.es ⟨l, n⟩).take j).map (plc g.ns)) : Nat) : Int)))]) (fun j => []) (fun j => (nearL g.es ⟨l, n⟩).length - j) 0 (Nat.zero_le _) (fun j hj => ?_)
  rcases Nat.lt_or_ge j (nearL g.es ⟨l, n⟩).length with hlt | hge
  · obtain ⟨⟨yl, yn⟩, hy⟩ := get_lt hlt
    have hym := (near_mem_ns hg (List.mem_of_getElem? hy)).1
    have hpy := plc_ok hym
    have hyl : plc g.ns ⟨yl, yn⟩ < left.length := by omega
    have hys : left[plc g.ns ⟨yl, yn⟩]? = some (left.getD (plc g.ns ⟨yl, yn⟩) false) := getD_at hyl
    have hst : stays left (((nearL g.es ⟨l, n⟩).take (j + 1)).map (plc g.ns)) = stays left (((nearL g.es ⟨l, n⟩).take j).map (plc g.ns)) + if left.getD (plc g.ns ⟨yl, yn⟩) false = true then 1 else 0 := by
      simp [stays, List.take_add_one, hy, List.countP_append, List.countP_cons]
    have hsb := stays_le (left := left) (row := ((nearL g.es ⟨l, n⟩).take j).map (plc g.ns))
    simp only [List.length_map, List.length_take] at hsb
    generalize left.getD (plc g.ns ⟨yl, yn⟩) false = c at hys hst
    generalize stays left (((nearL g.es ⟨l, n⟩).take j).map (plc g.ns)) = m at hst hsb ⊢
    repeat' (first | refine E.st ?_ | refine E.cl (h := fun _ w _ => c_l2At_m w hym) (k := ?_)  | refine E.q3 ?_ | refine E.q ?_ | refine E.qs ?_ | refine E.q2 ?_ | refine E.q4 ?_ | refine E.tr ?_ | refine E.ap (fun _ _ => ?_) | refine E.b1 (fun _ _ => ?_) | refine E.b0 (fun _ _ => ?_) | refine E.bsn (fun _ _ => ?_) | refine E.mk (fun _ _ => ?_) | refine E.bxO (fun _ => ?_) | refine E.al (fun _ => ?_) | refine E.sbO ?_ | refine E.dq ?_ | refine E.ct ?_ | refine E.cf ?_ | refine E.cs (fun hh => ?_) (fun hh => ?_) | refine E.at_block_other rfl ?_)
    · rw [if_pos (by assumption)] at hst
      exact rd (j + 1) hlt (hF := FSub.int rfl (by omega) (FSub.int rfl (by omega) fs))
    · rw [if_neg (by simp [*])] at hst
      exact rd (j + 1) hlt (hF := FSub.int rfl (by omega) (FSub.int rfl (by omega) fs))
  · rw [List.take_of_length_le hge]
    repeat' (first | refine E.st ?_ | refine E.q3 ?_ | refine E.q ?_ | refine E.qs ?_ | refine E.q2 ?_ | refine E.q4 ?_ | refine E.tr ?_ | refine E.ap (fun _ _ => ?_) | refine E.b1 (fun _ _ => ?_) | refine E.b0 (fun _ _ => ?_) | refine E.bsn (fun _ _ => ?_) | refine E.mk (fun _ _ => ?_) | refine E.bxO (fun _ => ?_) | refine E.al (fun _ => ?_) | refine E.sbO ?_ | refine E.dq ?_ | refine E.ct ?_ | refine E.cf ?_ | refine E.cs (fun hh => ?_) (fun hh => ?_) | refine E.at_block_other rfl ?_)
    exact ri
theorem c_l4Codes {v : Value} {ns : List Nd} (w : World) (hl : ns.length ≤ 1000) (hr : RdF w v ns := by exact rdA) : Calls Tryz.prog 79 #[v] w (Ret (fun z : V1 => z.1) (fun z => [ownF 3 z.1 (ns.map cd)]) w) := by
  have o1 := hr.one
  refine enter (args := _) Tryz.func79 rfl Tryz.ntmps79 (by simp) ?_
  repeat' (first | refine E.st ?_ | refine E.b0 (α := Int) (fun v3 h3 => ?_) | refine E.q3 ?_ | refine E.q ?_ | refine E.qs ?_ | refine E.q2 ?_ | refine E.q4 ?_ | refine E.tr ?_ | refine E.ap (fun _ _ => ?_) | refine E.b1 (fun _ _ => ?_) | refine E.b0 (fun _ _ => ?_) | refine E.bsn (fun _ _ => ?_) | refine E.mk (fun _ _ => ?_) | refine E.bxO (fun _ => ?_) | refine E.al (fun _ => ?_) | refine E.sbO ?_ | refine E.dq ?_ | refine E.ct ?_ | refine E.cf ?_ | refine E.cs (fun hh => ?_) (fun hh => ?_) | refine E.at_block_other rfl ?_)
  refine lq (fun z : Nat × V1 => z.1 ≤ ns.length) (fun z => [(4, .pl (.int .i64 (z.1 : Int))), (3, .pl z.2.1)]) (fun z => [ownF 3 z.2.1 ((ns.take z.1).map cd)]) (fun z => ns.length - z.1) (0, ⟨v3, h3⟩) (Nat.zero_le _) (fun z hz => ?_)
  obtain ⟨k, ⟨v3, h3⟩⟩ := z
  dsimp only at hz h3 ⊢
  have hlk : ((ns.take k).map cd).length ≤ 1000 := by simp; omega
  rcases Nat.lt_or_ge k ns.length with hlt | hge
  · obtain ⟨⟨xl, xn⟩, hx⟩ := get_lt hlt
    repeat' (first | refine E.st ?_ | refine E.cl (h := fun _ w _ => c_s_l2Code w) (k := ?_)  | refine E.q3 ?_ | refine E.q ?_ | refine E.qs ?_ | refine E.q2 ?_ | refine E.q4 ?_ | refine E.tr ?_ | refine E.ap (fun _ _ => ?_) | refine E.b1 (fun _ _ => ?_) | refine E.b0 (fun _ _ => ?_) | refine E.bsn (fun _ _ => ?_) | refine E.mk (fun _ _ => ?_) | refine E.bxO (fun _ => ?_) | refine E.al (fun _ => ?_) | refine E.sbO ?_ | refine E.dq ?_ | refine E.ct ?_ | refine E.cf ?_ | refine E.cs (fun hh => ?_) (fun hh => ?_) | refine E.at_block_other rfl ?_)
    refine rd (α := Nat × V1) (k + 1, ⟨_, ?_⟩) hlt (hK := KSub.ownF pk (by simp [List.take_add_one, hx]) ks)
    assumption
  · rw [List.take_of_length_le hge]
    repeat' (first | refine E.st ?_ | refine E.q3 ?_ | refine E.q ?_ | refine E.qs ?_ | refine E.q2 ?_ | refine E.q4 ?_ | refine E.tr ?_ | refine E.ap (fun _ _ => ?_) | refine E.b1 (fun _ _ => ?_) | refine E.b0 (fun _ _ => ?_) | refine E.bsn (fun _ _ => ?_) | refine E.mk (fun _ _ => ?_) | refine E.bxO (fun _ => ?_) | refine E.al (fun _ => ?_) | refine E.sbO ?_ | refine E.dq ?_ | refine E.ct ?_ | refine E.cf ?_ | refine E.cs (fun hh => ?_) (fun hh => ?_) | refine E.at_block_other rfl ?_)
    exact r1 (α := V1) ⟨v3, h3⟩
theorem c_l3Joined {v u : Value} {g : Gr} {l n l' n' : Int} (w : World) (hg : g.ok) (hr : RdF w v g.ns := by exact rdA) (hq : RdF w u g.es := by exact rdA) :
    Calls Tryz.prog 145 #[.agg #[v, u], .agg #[.int .i64 l, .int .i64 n], .agg #[.int .i64 l', .int .i64 n']] w (Ret (fun _ : Unit => .bool (decide ((⟨l', n'⟩ : Nd) ∈ nearL g.es ⟨l, n⟩))) (fun _ => []) w) := by
  have o1 := hr.one
  have o2 := hq.one
  have hel := hg.2.len
  have he : ∀ e ∈ g.es, eok e = true := fun e h => (hg.2.1 e h).1
  have hnl2 := near_len g.es ⟨l, n⟩
  refine enter (args := _) Tryz.func145 rfl Tryz.ntmps145 (by simp) ?_
  repeat' (first | refine E.st ?_ | refine E.cm (h := fun w _ => c_l2Near w he (by omega)) (k := fun v7 => ?_) | refine E.q3 ?_ | refine E.q ?_ | refine E.qs ?_ | refine E.q2 ?_ | refine E.q4 ?_ | refine E.tr ?_ | refine E.ap (fun _ _ => ?_) | refine E.b1 (fun _ _ => ?_) | refine E.b0 (fun _ _ => ?_) | refine E.bsn (fun _ _ => ?_) | refine E.mk (fun _ _ => ?_) | refine E.bxO (fun _ => ?_) | refine E.al (fun _ => ?_) | refine E.sbO ?_ | refine E.dq ?_ | refine E.ct ?_ | refine E.cf ?_ | refine E.cs (fun hh => ?_) (fun hh => ?_) | refine E.at_block_other rfl ?_)
  refine lq (fun k : Nat => k ≤ (nearL g.es ⟨l, n⟩).length ∧ ∀ y ∈ (nearL g.es ⟨l, n⟩).take k, y ≠ ⟨l', n'⟩) (fun k => [(8, .pl (.int .i64 (k : Int)))]) (fun _ => []) (fun k => (nearL g.es ⟨l, n⟩).length - k) 0 ⟨Nat.zero_le _, by simp⟩ (fun k hk0 => ?_)
  obtain ⟨hk1, hk2⟩ := hk0
  rcases Nat.lt_or_ge k (nearL g.es ⟨l, n⟩).length with hlt | hge
  · obtain ⟨x, hx⟩ := get_lt hlt
    repeat' (first | refine E.st ?_ | refine E.q3 ?_ | refine E.q ?_ | refine E.qs ?_ | refine E.q2 ?_ | refine E.q4 ?_ | refine E.tr ?_ | refine E.ap (fun _ _ => ?_) | refine E.b1 (fun _ _ => ?_) | refine E.b0 (fun _ _ => ?_) | refine E.bsn (fun _ _ => ?_) | refine E.mk (fun _ _ => ?_) | refine E.bxO (fun _ => ?_) | refine E.al (fun _ => ?_) | refine E.sbO ?_ | refine E.dq ?_ | refine E.ct ?_ | refine E.cf ?_ | refine E.cs (fun hh => ?_) (fun hh => ?_) | refine E.at_block_other rfl ?_)
    · refine rb ?_
      have : x = ⟨l', n'⟩ := Decidable.not_not.1 (fun h => nd_ne.2 h (by assumption))
      exact (decide_eq_true (this ▸ List.mem_of_getElem? hx)).symm
    · exact rd (k + 1) ⟨by omega, all_step hk2 hx (nd_ne.1 (by assumption))⟩
  · repeat' (first | refine E.st ?_ | refine E.q3 ?_ | refine E.q ?_ | refine E.qs ?_ | refine E.q2 ?_ | refine E.q4 ?_ | refine E.tr ?_ | refine E.ap (fun _ _ => ?_) | refine E.b1 (fun _ _ => ?_) | refine E.b0 (fun _ _ => ?_) | refine E.bsn (fun _ _ => ?_) | refine E.mk (fun _ _ => ?_) | refine E.bxO (fun _ => ?_) | refine E.al (fun _ => ?_) | refine E.sbO ?_ | refine E.dq ?_ | refine E.ct ?_ | refine E.cf ?_ | refine E.cs (fun hh => ?_) (fun hh => ?_) | refine E.at_block_other rfl ?_)
    refine rb ?_
    rw [List.take_of_length_le hge] at hk2
    exact (decide_eq_false (fun h => hk2 _ h rfl)).symm
/-- One round of peeling, step by step. -/
theorem peel_walk (adj : List (List Nat)) (k : Nat) (left : List Bool) : ∃ S : Nat → List Bool × Bool, S 0 = (left, false) ∧ (∀ j, S (j + 1) = peelS adj k (S j) j) ∧ (∀ j, (S j).1.length = left.length) ∧ S left.length = peelR adj k left := by
  refine ⟨fun j => (List.range j).foldl (peelS adj k) (left, false), rfl, fun j => by simp [List.range_succ], fun j => peelF_len _ _, rfl⟩
theorem c_l3Peel {v u b : Value} {g : Gr} {left : List Bool} {k : Nat} {w0 : World} {K : List Ck} (w : World) (hw : KOk w0 (ownF 4 b left :: K) w) (hg : g.ok) (hl : left.length = g.ns.length) (hk : k ≤ 1000) (hr : RdF w0 v g.ns := by assumption) (hq : RdF w0 u g.es := by assumption) :
    Calls Tryz.prog 144 #[.agg #[v, u], b, .int .i64 (k : Int)] w (RetK (fun _ : Unit => b) (fun _ => [ownF 4 b (peel (adjL g) k left)] ++ K) w0) := by
  have o1 := hr.one
  have o2 := hq.one
  have o3 := (RdF.ofK hw : RdF w b left).one
  have hnl := hg.1.len
  refine enterK (args := _) hw Tryz.func144 rfl Tryz.ntmps144 (by simp) ?_
  repeat' (first | refine E.st ?_ | refine E.q3 ?_ | refine E.q ?_ | refine E.qs ?_ | refine E.q2 ?_ | refine E.q4 ?_ | refine E.tr ?_ | refine E.ap (fun _ _ => ?_) | refine E.b1 (fun _ _ => ?_) | refine E.b0 (fun _ _ => ?_) | refine E.bsn (fun _ _ => ?_) | refine E.mk (fun _ _ => ?_) | refine E.bxO (fun _ => ?_) | refine E.al (fun _ => ?_) | refine E.sbO ?_ | refine E.dq ?_ | refine E.ct ?_ | refine E.cf ?_ | refine E.cs (fun hh => ?_) (fun hh => ?_) | refine E.at_block_other rfl ?_)
  refine lq (fun z : List Bool × Bool => z.1.length = g.ns.length ∧ (if z.2 = true then peel (adjL g) k z.1 else z.1) = peel (adjL g) k left) (fun z => [(7, .pl (.bool z.2))]) (fun z => [ownF 4 b z.1]) (fun z => 2 * trues z.1 + if z.2 = true then 1 else 0) (left, true) ⟨hl, rfl⟩ (fun z hz => ?_)
  obtain ⟨left', t⟩ := z
  obtain ⟨hl', hp⟩ := hz
  dsimp only at hl' hp ⊢
  cases t with
  | false =>
    repeat' (first | refine E.st ?_ | refine E.q3 ?_ | refine E.q ?_ | refine E.qs ?_ | refine E.q2 ?_ | refine E.q4 ?_ | refine E.tr ?_ | refine E.ap (fun _ _ => ?_) | refine E.b1 (fun _ _ => ?_) | refine E.b0 (fun _ _ => ?_) | refine E.bsn (fun _ _ => ?_) | refine E.mk (fun _ _ => ?_) | refine E.bxO (fun _ => ?_) | refine E.al (fun _ => ?_) | refine E.sbO ?_ | refine E.dq ?_ | refine E.ct ?_ | refine E.cf ?_ | refine E.cs (fun hh => ?_) (fun hh => ?_) | refine E.at_block_other rfl ?_)
    refine r1K () (hK := KSub.ownF pk hp ?_)
    change KSub (Ck.box _ _ _ :: K) K
    exact ks
  | true =>
    obtain ⟨S, hS0, hSs, hSl, hSe⟩ := peel_walk (adjL g) k left'
    have htr := peelR_tr (adj := adjL g) (k := k) (left := left')
    have hps := peel_step (adj := adjL g) (k := k) (left := left')
    rw [if_pos rfl] at hp
    rw [hp, ← hSe] at hps
    rw [← hSe] at htr
    have hS02 : (S 0).2 = false := by rw [hS0]
    repeat' (first | refine E.st ?_ | refine E.q3 ?_ | refine E.q ?_ | refine E.qs ?_ | refine E.q2 ?_ | refine E.q4 ?_ | refine E.tr ?_ | refine E.ap (fun _ _ => ?_) | refine E.b1 (fun _ _ => ?_) | refine E.b0 (fun _ _ => ?_) | refine E.bsn (fun _ _ => ?_) | refine E.mk (fun _ _ => ?_) | refine E.bxO (fun _ => ?_) | refine E.al (fun _ => ?_) | refine E.sbO ?_ | refine E.dq ?_ | refine E.ct ?_ | refine E.cf ?_ | refine E.cs (fun hh => ?_) (fun hh => ?_) | refine E.at_block_other rfl ?_)
    refine lq (fun j : Nat => j ≤ left'.length) (fun j => [(8, .pl (.int .i64 (j : Int))), (7, .pl (.bool (S j).2))]) (fun j => [ownF 4 b (S j).1]) (fun j => left'.length - j) 0 (Nat.zero_le _) (fun j hj => ?_) (hK := Spl.ownF pk (by rw [hS0]) (Spl.nil _))
    have hlj := hSl j
    rcases Nat.lt_or_ge j left'.length with hlt | hge
    · obtain ⟨⟨xl, xn⟩, hx⟩ := get_lt (xs := g.ns) (k := j) (by omega)
      have hxm := List.mem_of_getElem? hx
      have hbj : (S j).1[j]? = some ((S j).1.getD j false) := getD_at (by omega)
      have hst := hSs j
      have hadj := adj_get hx
      have hrow : (adjL g).getD j [] = (nearL g.es ⟨xl, xn⟩).map (plc g.ns) := by rw [List.getD_eq_getElem?_getD, hadj]; rfl
      unfold peelS at hst
      rw [hrow] at hst
      change _ = if (S j).1.getD j false = true ∧ leftN (S j).1 g ⟨xl, xn⟩ < k then _ else _ at hst
      have hlen : (S j).1.length = g.ns.length := by omega
      generalize (S j).1.getD j false = c at hbj hst
      repeat' (first | refine E.st ?_ | refine E.cl (h := fun _ w _ => c_l3Left (left := (S j).1) w hg hxm hlen) (k := ?_)  | refine E.q3 ?_ | refine E.q ?_ | refine E.qs ?_ | refine E.q2 ?_ | refine E.q4 ?_ | refine E.tr ?_ | refine E.ap (fun _ _ => ?_) | refine E.b1 (fun _ _ => ?_) | refine E.b0 (fun _ _ => ?_) | refine E.bsn (fun _ _ => ?_) | refine E.mk (fun _ _ => ?_) | refine E.bxO (fun _ => ?_) | refine E.al (fun _ => ?_) | refine E.sbO ?_ | refine E.dq ?_ | refine E.ct ?_ | refine E.cf ?_ | refine E.cs (fun hh => ?_) (fun hh => ?_) | refine E.at_block_other rfl ?_)
      · rw [if_pos ⟨hh.1, by omega⟩] at hst
        have h1 : (S (j + 1)).2 = true := by rw [hst]
        exact rd (j + 1) hlt (hK := KSub.ownF pk (by rw [hst]) ks)
      · rw [if_neg (by
          rintro ⟨a, b⟩
          rcases hh with h | h
          · rw [a] at h; cases h
          · omega)] at hst
        have h1 : (S (j + 1)).2 = (S j).2 := by rw [hst]
        exact rd (j + 1) hlt (hK := KSub.ownF pk (by rw [hst]) ks)
    · repeat' (first | refine E.st ?_ | refine E.q3 ?_ | refine E.q ?_ | refine E.qs ?_ | refine E.q2 ?_ | refine E.q4 ?_ | refine E.tr ?_ | refine E.ap (fun _ _ => ?_) | refine E.b1 (fun _ _ => ?_) | refine E.b0 (fun _ _ => ?_) | refine E.bsn (fun _ _ => ?_) | refine E.mk (fun _ _ => ?_) | refine E.bxO (fun _ => ?_) | refine E.al (fun _ => ?_) | refine E.sbO ?_ | refine E.dq ?_ | refine E.ct ?_ | refine E.cf ?_ | refine E.cs (fun hh => ?_) (fun hh => ?_) | refine E.at_block_other rfl ?_)
      have hje : j = left'.length := by omega
      subst hje
      refine rd (α := List Bool × Bool) (S left'.length) ⟨by omega, hps.symm⟩ ?_
      rw [if_pos rfl]
      split
      · rename_i h
        have := htr.2 h
        omega
      · have := htr.1
        omega
end E
end Go.Proofs.YtpiiapoafmnhhaaGreat
