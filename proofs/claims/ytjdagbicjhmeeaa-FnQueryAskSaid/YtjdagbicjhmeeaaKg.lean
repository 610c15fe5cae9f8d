/- What is done to a graph, and what is seen of it, as the reference says it. -/
import Derived.Test.YtjdagbicjhmeeaaKe
import Derived.Test.YtjdagbicjhmeeaaKf
namespace Go.Proofs.Ytjdagbicjhmeeaa
namespace E
open Go Go.RowKit
set_option linter.unusedSimpArgs false
set_option linter.unusedVariables false
set_option maxHeartbeats 1000000
set_option maxRecDepth 10000
attribute [local irreducible] HC HL HQ HX HO At Y YV Opd Opds KnX Sl Ld Src GV RV Calls Code.wp eptr adr RdF ownF OneX HG LdC
abbrev VV := { p : Value × Value // p.1.oneCell' = true ∧ p.2.oneCell' = true }
theorem calls_sv2 {P : Program} {α β : Type} [Flat α] [Flat β] {f : FuncId} {args : Array Value} {w : World} {e1 e2 : TypeId} {xs : List α} {ys : List β} {mk : Value → Value → Value} (h : Calls P f args w (Ret (fun z : VV => mk z.1.1 z.1.2) (fun z => [ownF e1 z.1.1 xs, ownF e2 z.1.2 ys]) w)) :
    Calls P f args w (Ret (fun z : Sv × Sv => mk (.slice z.1.a z.1.n z.1.c) (.slice z.2.a z.2.n z.2.c)) (fun z => [ownF e1 (.slice z.1.a z.1.n z.1.c) xs, ownF e2 (.slice z.2.a z.2.n z.2.c) ys]) w) := h.mono fun en w' ⟨v, he, hk⟩ => by
  obtain ⟨⟨v1, v2⟩, hv⟩ := v
  obtain ⟨s1, e1⟩ := ownF_sv (List.mem_cons_self) hk
  obtain ⟨s2, e2⟩ := ownF_sv (List.mem_cons_of_mem _ List.mem_cons_self) hk
  dsimp only at e1 e2 he hk
  subst e1; subst e2
  exact ⟨(s1, s2), he, hk⟩
theorem c_l2CopyS {v u : Value} {ns : List Nd} {es : List Eg} (w : World) (hr : RdF w v ns := by exact rdA) (hq : RdF w u es := by exact rdA) (hn : ns.length ≤ 1048576 := by omega) (he : es.length ≤ 1048576 := by omega) :
    Calls Try.prog 90 #[.agg #[v, u]] w (Ret (fun z : Sv × Sv => .agg #[.slice z.1.a z.1.n z.1.c, .slice z.2.a z.2.n z.2.c]) (fun z => [ownF 29 (.slice z.1.a z.1.n z.1.c) ns, ownF 31 (.slice z.2.a z.2.n z.2.c) es]) w) := calls_sv2 (mk := fun a b => .agg #[a, b]) (c_l2Copy w hr hq hn he)
theorem c_l2View {v u : Value} {ns : List Nd} {es : List Eg} {c : Int} (w : World) (hc : lok c = true) (hn : ∀ x ∈ ns, nok x = true) (he : ∀ e ∈ es, eok e = true) (hr : RdF w v ns := by exact rdA) (hq : RdF w u es := by exact rdA) (hl : ns.length ≤ 1000000 := by omega) (hl2 : es.length ≤ 1000000 := by omega) :
    Calls Try.prog 144 #[.agg #[v, u], .int .i64 c] w (Ret (fun z : Sv × Sv => .agg #[.slice z.1.a z.1.n z.1.c, .slice z.2.a z.2.n z.2.c]) (fun z => [ownF 29 (.slice z.1.a z.1.n z.1.c) (view ⟨ns, es⟩ c).ns, ownF 31 (.slice z.2.a z.2.n z.2.c) (view ⟨ns, es⟩ c).es]) w) := by
  refine calls_sv2 (mk := fun a b => .agg #[a, b]) ?_
  have m1 := hr.le
  have o1 := hr.one
  have m2 := hq.le
  have o2 := hq.one
  simp only [maxLen] at m1 m2
  refine enter (args := _) Try.func144 rfl Try.ntmps144 (by simp) ?_
  repeat' (first | refine E.st ?_ | refine E.al (fun g5 => ?_) | refine E.b0 (fun v0 h0 => ?_) | refine E.q3 ?_ | refine E.q ?_ | refine E.qs ?_ | refine E.q2 ?_ | refine E.q4 ?_ | refine E.tr ?_ | refine E.ap (fun _ _ => ?_) | refine E.b1 (fun _ _ => ?_) | refine E.b0 (fun _ _ => ?_) | refine E.bsn (fun _ _ => ?_) | refine E.mk (fun _ _ => ?_) | refine E.bxO (fun _ => ?_) | refine E.al (fun _ => ?_) | refine E.sbO ?_ | refine E.dq ?_ | refine E.ct ?_ | refine E.cf ?_ | refine E.cs (fun hh => ?_) (fun hh => ?_) | refine E.at_block_other rfl ?_)
  rename_i g4 v1 h1
  refine lq (fun p : Nat × { v' : Value // v'.oneCell' = true } => p.1 ≤ ns.length) (fun p => [(6, .pl (.int .i64 (p.1 : Int)))]) (fun p => [.box g5 59 [p.2.1, v0], ownF 29 p.2.1 ((ns.take p.1).filter (fun x => lun x.l c))]) (fun p => ns.length - p.1) (0, ⟨v1, h1⟩) (Nat.zero_le _) (fun p hp => ?_)
  obtain ⟨k, ⟨v', hv'⟩⟩ := p
  dsimp only at hp ⊢
  have hfl := filter_len (fun x => lun x.l c) ns k
  rcases Nat.lt_or_ge k ns.length with hlt | hge
  · obtain ⟨x, hx⟩ := get_lt hlt
    have hst := take_filter_step (fun x => lun x.l c) hx
    have hlu : lun x.l c = und x.l c := by simp [lun, hc, nok_lok (hn x (List.mem_of_getElem? hx))]
    repeat' (first | refine E.st ?_ | refine E.cl (h := fun _ w _ => c_s_l1Under w) (k := ?_) | refine E.dxo v' [0, 1, 2, 3, 4, 5, 6, 7, 8, 9, 10] ?_ | refine E.q3 ?_ | refine E.q ?_ | refine E.qs ?_ | refine E.q2 ?_ | refine E.q4 ?_ | refine E.tr ?_ | refine E.ap (fun _ _ => ?_) | refine E.b1 (fun _ _ => ?_) | refine E.b0 (fun _ _ => ?_) | refine E.bsn (fun _ _ => ?_) | refine E.mk (fun _ _ => ?_) | refine E.bxO (fun _ => ?_) | refine E.al (fun _ => ?_) | refine E.sbO ?_ | refine E.dq ?_ | refine E.ct ?_ | refine E.cf ?_ | refine E.cs (fun hh => ?_) (fun hh => ?_) | refine E.at_block_other rfl ?_)
    all_goals (refine rd (α := Nat × { v' : Value // v'.oneCell' = true }) (k + 1, ⟨_, ?_⟩) (by dsimp only; omega) (hK := KSub.pick pk (KSub.ownF pk ?_ ks)))
    all_goals first
      | assumption
      | skip
    all_goals (dsimp only; rw [hst]; first | (simp_all; done) | grind)
  rw [List.take_of_length_le hge]
  repeat' (first | refine E.st ?_ | refine E.q3 ?_ | refine E.q ?_ | refine E.qs ?_ | refine E.q2 ?_ | refine E.q4 ?_ | refine E.tr ?_ | refine E.ap (fun _ _ => ?_) | refine E.b1 (fun _ _ => ?_) | refine E.b0 (fun _ _ => ?_) | refine E.bsn (fun _ _ => ?_) | refine E.mk (fun _ _ => ?_) | refine E.bxO (fun _ => ?_) | refine E.al (fun _ => ?_) | refine E.sbO ?_ | refine E.dq ?_ | refine E.ct ?_ | refine E.cf ?_ | refine E.cs (fun hh => ?_) (fun hh => ?_) | refine E.at_block_other rfl ?_)
  refine lq (fun p : Nat × { v' : Value // v'.oneCell' = true } => p.1 ≤ es.length) (fun p => [(7, .pl (.int .i64 (p.1 : Int)))]) (fun p => [.box g5 59 [v', p.2.1], ownF 31 p.2.1 ((es.take p.1).filter (fun x => lun x.l c))]) (fun p => es.length - p.1) (0, ⟨v0, h0⟩) (Nat.zero_le _) (fun p hp => ?_)
  obtain ⟨k2, ⟨v2, hv2⟩⟩ := p
  dsimp only at hp ⊢
  have hfl := filter_len (fun x => lun x.l c) es k2
  rcases Nat.lt_or_ge k2 es.length with hlt | hge
  · obtain ⟨x, hx⟩ := get_lt hlt
    have hst := take_filter_step (fun x => lun x.l c) hx
    have hlu : lun x.l c = und x.l c := by simp [lun, hc, (eok_parts (he x (List.mem_of_getElem? hx))).1]
    repeat' (first | refine E.st ?_ | refine E.cl (h := fun _ w _ => c_s_l1Under w) (k := ?_) | refine E.dxo v2 [0, 1, 2, 3, 4, 5, 6, 7, 8, 9, 10] ?_ | refine E.q3 ?_ | refine E.q ?_ | refine E.qs ?_ | refine E.q2 ?_ | refine E.q4 ?_ | refine E.tr ?_ | refine E.ap (fun _ _ => ?_) | refine E.b1 (fun _ _ => ?_) | refine E.b0 (fun _ _ => ?_) | refine E.bsn (fun _ _ => ?_) | refine E.mk (fun _ _ => ?_) | refine E.bxO (fun _ => ?_) | refine E.al (fun _ => ?_) | refine E.sbO ?_ | refine E.dq ?_ | refine E.ct ?_ | refine E.cf ?_ | refine E.cs (fun hh => ?_) (fun hh => ?_) | refine E.at_block_other rfl ?_)
    all_goals (refine rd (α := Nat × { v' : Value // v'.oneCell' = true }) (k2 + 1, ⟨_, ?_⟩) (by dsimp only; omega) (hK := KSub.pick pk (KSub.ownF pk ?_ ks)))
    all_goals first
      | assumption
      | skip
    all_goals (dsimp only; rw [hst]; first | (simp_all; done) | grind)
  rw [List.take_of_length_le hge]
  repeat' (first | refine E.st ?_ | refine E.q3 ?_ | refine E.q ?_ | refine E.qs ?_ | refine E.q2 ?_ | refine E.q4 ?_ | refine E.tr ?_ | refine E.ap (fun _ _ => ?_) | refine E.b1 (fun _ _ => ?_) | refine E.b0 (fun _ _ => ?_) | refine E.bsn (fun _ _ => ?_) | refine E.mk (fun _ _ => ?_) | refine E.bxO (fun _ => ?_) | refine E.al (fun _ => ?_) | refine E.sbO ?_ | refine E.dq ?_ | refine E.ct ?_ | refine E.cf ?_ | refine E.cs (fun hh => ?_) (fun hh => ?_) | refine E.at_block_other rfl ?_)
  refine r1 (α := VV) ⟨(_, _), ?_⟩ (hK := KSub.ownF pk ?_ (KSub.ownF pk ?_ (KSub.nil _)))
  · exact ⟨by assumption, by assumption⟩
  · rfl
  · rfl
theorem c_l2Off {v u : Value} {ns : List Nd} {es : List Eg} {l n : Int} (w : World) (hr : RdF w v ns := by exact rdA) (hq : RdF w u es := by exact rdA) (hl : ns.length ≤ 1000000 := by omega) (hl2 : es.length ≤ 1000000 := by omega) :
    Calls Try.prog 113 #[.agg #[v, u], .agg #[.int .i64 l, .int .i64 n]] w (Ret (fun z : Sv × Sv => .agg #[.slice z.1.a z.1.n z.1.c, .slice z.2.a z.2.n z.2.c]) (fun z => [ownF 29 (.slice z.1.a z.1.n z.1.c) (ns.filter (fun x => !decide (x = ⟨l, n⟩))), ownF 31 (.slice z.2.a z.2.n z.2.c) (es.filter (fun e => !decide (e.a = ⟨l, n⟩) && !decide (e.b = ⟨l, n⟩)))]) w) := by
  refine calls_sv2 (mk := fun a b => .agg #[a, b]) ?_
  have m1 := hr.le
  have o1 := hr.one
  have m2 := hq.le
  have o2 := hq.one
  simp only [maxLen] at m1 m2
  refine enter (args := _) Try.func113 rfl Try.ntmps113 (by simp) ?_
  repeat' (first | refine E.st ?_ | refine E.al (fun g5 => ?_) | refine E.b0 (fun v0 h0 => ?_) | refine E.q3 ?_ | refine E.q ?_ | refine E.qs ?_ | refine E.q2 ?_ | refine E.q4 ?_ | refine E.tr ?_ | refine E.ap (fun _ _ => ?_) | refine E.b1 (fun _ _ => ?_) | refine E.b0 (fun _ _ => ?_) | refine E.bsn (fun _ _ => ?_) | refine E.mk (fun _ _ => ?_) | refine E.bxO (fun _ => ?_) | refine E.al (fun _ => ?_) | refine E.sbO ?_ | refine E.dq ?_ | refine E.ct ?_ | refine E.cf ?_ | refine E.cs (fun hh => ?_) (fun hh => ?_) | refine E.at_block_other rfl ?_)
  rename_i g4 v1 h1
  refine lq (fun p : Nat × { v' : Value // v'.oneCell' = true } => p.1 ≤ ns.length) (fun p => [(6, .pl (.int .i64 (p.1 : Int)))]) (fun p => [.box g5 59 [p.2.1, v0], ownF 29 p.2.1 ((ns.take p.1).filter (fun x => !decide (x = ⟨l, n⟩)))]) (fun p => ns.length - p.1) (0, ⟨v1, h1⟩) (Nat.zero_le _) (fun p hp => ?_)
  obtain ⟨k, ⟨v', hv'⟩⟩ := p
  dsimp only at hp ⊢
  have hfl := filter_len (fun x => !decide (x = ⟨l, n⟩)) ns k
  rcases Nat.lt_or_ge k ns.length with hlt | hge
  · obtain ⟨x, hx⟩ := get_lt hlt
    have hst := take_filter_step (fun x => !decide (x = ⟨l, n⟩)) hx
    have hne := @nd_ne x l n
    repeat' (first | refine E.st ?_ | refine E.dxo v' [0, 1, 2, 3, 4, 5, 6, 7, 8, 9, 10] ?_ | refine E.q3 ?_ | refine E.q ?_ | refine E.qs ?_ | refine E.q2 ?_ | refine E.q4 ?_ | refine E.tr ?_ | refine E.ap (fun _ _ => ?_) | refine E.b1 (fun _ _ => ?_) | refine E.b0 (fun _ _ => ?_) | refine E.bsn (fun _ _ => ?_) | refine E.mk (fun _ _ => ?_) | refine E.bxO (fun _ => ?_) | refine E.al (fun _ => ?_) | refine E.sbO ?_ | refine E.dq ?_ | refine E.ct ?_ | refine E.cf ?_ | refine E.cs (fun hh => ?_) (fun hh => ?_) | refine E.at_block_other rfl ?_)
    all_goals (refine rd (α := Nat × { v' : Value // v'.oneCell' = true }) (k + 1, ⟨_, ?_⟩) (by dsimp only; omega) (hK := KSub.pick pk (KSub.ownF pk ?_ ks)))
    all_goals first
      | assumption
      | skip
    all_goals (dsimp only; rw [hst]; first | (simp_all; done) | grind)
  rw [List.take_of_length_le hge]
  repeat' (first | refine E.st ?_ | refine E.q3 ?_ | refine E.q ?_ | refine E.qs ?_ | refine E.q2 ?_ | refine E.q4 ?_ | refine E.tr ?_ | refine E.ap (fun _ _ => ?_) | refine E.b1 (fun _ _ => ?_) | refine E.b0 (fun _ _ => ?_) | refine E.bsn (fun _ _ => ?_) | refine E.mk (fun _ _ => ?_) | refine E.bxO (fun _ => ?_) | refine E.al (fun _ => ?_) | refine E.sbO ?_ | refine E.dq ?_ | refine E.ct ?_ | refine E.cf ?_ | refine E.cs (fun hh => ?_) (fun hh => ?_) | refine E.at_block_other rfl ?_)
  refine lq (fun p : Nat × { v' : Value // v'.oneCell' = true } => p.1 ≤ es.length) (fun p => [(7, .pl (.int .i64 (p.1 : Int)))]) (fun p => [.box g5 59 [v', p.2.1], ownF 31 p.2.1 ((es.take p.1).filter (fun e => !decide (e.a = ⟨l, n⟩) && !decide (e.b = ⟨l, n⟩)))]) (fun p => es.length - p.1) (0, ⟨v0, h0⟩) (Nat.zero_le _) (fun p hp => ?_)
  obtain ⟨k2, ⟨v2, hv2⟩⟩ := p
  dsimp only at hp ⊢
  have hfl := filter_len (fun e => !decide (e.a = ⟨l, n⟩) && !decide (e.b = ⟨l, n⟩)) es k2
  rcases Nat.lt_or_ge k2 es.length with hlt | hge
  · obtain ⟨x, hx⟩ := get_lt hlt
    have hst := take_filter_step (fun e => !decide (e.a = ⟨l, n⟩) && !decide (e.b = ⟨l, n⟩)) hx
    have hne := @eg_ab x l n
    have hne2 := @nd_ne x.b l n
    repeat' (first | refine E.st ?_ | refine E.dxo v2 [0, 1, 2, 3, 4, 5, 6, 7, 8, 9, 10] ?_ | refine E.q3 ?_ | refine E.q ?_ | refine E.qs ?_ | refine E.q2 ?_ | refine E.q4 ?_ | refine E.tr ?_ | refine E.ap (fun _ _ => ?_) | refine E.b1 (fun _ _ => ?_) | refine E.b0 (fun _ _ => ?_) | refine E.bsn (fun _ _ => ?_) | refine E.mk (fun _ _ => ?_) | refine E.bxO (fun _ => ?_) | refine E.al (fun _ => ?_) | refine E.sbO ?_ | refine E.dq ?_ | refine E.ct ?_ | refine E.cf ?_ | refine E.cs (fun hh => ?_) (fun hh => ?_) | refine E.at_block_other rfl ?_)
    all_goals (refine rd (α := Nat × { v' : Value // v'.oneCell' = true }) (k2 + 1, ⟨_, ?_⟩) (by dsimp only; omega) (hK := KSub.pick pk (KSub.ownF pk ?_ ks)))
    all_goals first
      | assumption
      | skip
    all_goals (dsimp only; rw [hst]; first | (simp_all; done) | grind)
  rw [List.take_of_length_le hge]
  repeat' (first | refine E.st ?_ | refine E.q3 ?_ | refine E.q ?_ | refine E.qs ?_ | refine E.q2 ?_ | refine E.q4 ?_ | refine E.tr ?_ | refine E.ap (fun _ _ => ?_) | refine E.b1 (fun _ _ => ?_) | refine E.b0 (fun _ _ => ?_) | refine E.bsn (fun _ _ => ?_) | refine E.mk (fun _ _ => ?_) | refine E.bxO (fun _ => ?_) | refine E.al (fun _ => ?_) | refine E.sbO ?_ | refine E.dq ?_ | refine E.ct ?_ | refine E.cf ?_ | refine E.cs (fun hh => ?_) (fun hh => ?_) | refine E.at_block_other rfl ?_)
  refine r1 (α := VV) ⟨(_, _), ?_⟩ (hK := KSub.ownF pk ?_ (KSub.ownF pk ?_ (KSub.nil _)))
  · exact ⟨by assumption, by assumption⟩
  · rfl
  · rfl
end E
end Go.Proofs.Ytjdagbicjhmeeaa
