/- What is done to a graph, as the reference says it: the third part. -/
import Derived.Test.YtjdagbicjhmeeaaKg
namespace Go.Proofs.Ytjdagbicjhmeeaa
namespace E
open Go Go.RowKit
set_option linter.unusedSimpArgs false
set_option linter.unusedVariables false
set_option maxHeartbeats 1000000
set_option maxRecDepth 10000
attribute [local irreducible] HC HL HQ HX HO At Y YV Opd Opds KnX Sl Ld Src GV RV Calls Code.wp eptr adr RdF ownF OneX HG LdC
theorem c_l2Cut {v u : Value} {es : List Eg} {l al an bl bn : Int} (w : World) (hq : RdF w u es := by exact rdA) (ho : v.oneCell' = true := by assumption) (hl2 : es.length ≤ 1000000 := by omega) :
    Calls Try.prog 112 #[.agg #[v, u], .agg #[.int .i64 l, .int .i64 al, .int .i64 an, .int .i64 bl, .int .i64 bn]] w (Ret (fun s : Sv => .agg #[v, .slice s.a s.n s.c]) (fun s => [ownF 31 (.slice s.a s.n s.c) (es.filter (fun e => !decide (e = ⟨l, ⟨al, an⟩, ⟨bl, bn⟩⟩)))]) w) := by
  refine calls_svm (mk := fun u => .agg #[v, u]) (Kr := []) ?_
  have m2 := hq.le
  have o2 := hq.one
  simp only [maxLen] at m2
  refine enter (args := _) Try.func112 rfl Try.ntmps112 (by simp) ?_
  repeat' (first | refine E.st ?_ | refine E.q3 ?_ | refine E.q ?_ | refine E.qs ?_ | refine E.q2 ?_ | refine E.q4 ?_ | refine E.tr ?_ | refine E.ap (fun _ _ => ?_) | refine E.b1 (fun _ _ => ?_) | refine E.b0 (fun _ _ => ?_) | refine E.bsn (fun _ _ => ?_) | refine E.mk (fun _ _ => ?_) | refine E.bxO (fun _ => ?_) | refine E.al (fun _ => ?_) | refine E.sbO ?_ | refine E.dq ?_ | refine E.ct ?_ | refine E.cf ?_ | refine E.cs (fun hh => ?_) (fun hh => ?_) | refine E.at_block_other rfl ?_)
  rename_i v1 h1
  refine lq (fun p : Nat × { v' : Value // v'.oneCell' = true } => p.1 ≤ es.length) (fun p => [(5, .pl p.2.1), (6, .pl (.int .i64 (p.1 : Int)))]) (fun p => [ownF 31 p.2.1 ((es.take p.1).filter (fun e => !decide (e = ⟨l, ⟨al, an⟩, ⟨bl, bn⟩⟩)))]) (fun p => es.length - p.1) (0, ⟨v1, h1⟩) (Nat.zero_le _) (fun p hp => ?_)
  obtain ⟨k, ⟨v', hv'⟩⟩ := p
  dsimp only at hp ⊢
  have hfl := filter_len (fun e => !decide (e = (⟨l, ⟨al, an⟩, ⟨bl, bn⟩⟩ : Eg))) es k
  rcases Nat.lt_or_ge k es.length with hlt | hge
  · obtain ⟨x, hx⟩ := get_lt hlt
    have hst := take_filter_step (fun e => !decide (e = (⟨l, ⟨al, an⟩, ⟨bl, bn⟩⟩ : Eg))) hx
    have hne := @eg_ne' x l al an bl bn
    repeat' (first | refine E.st ?_ | refine E.q3 ?_ | refine E.q ?_ | refine E.qs ?_ | refine E.q2 ?_ | refine E.q4 ?_ | refine E.tr ?_ | refine E.ap (fun _ _ => ?_) | refine E.b1 (fun _ _ => ?_) | refine E.b0 (fun _ _ => ?_) | refine E.bsn (fun _ _ => ?_) | refine E.mk (fun _ _ => ?_) | refine E.bxO (fun _ => ?_) | refine E.al (fun _ => ?_) | refine E.sbO ?_ | refine E.dq ?_ | refine E.ct ?_ | refine E.cf ?_ | refine E.cs (fun hh => ?_) (fun hh => ?_) | refine E.at_block_other rfl ?_)
    · rename_i v3 h3
      refine rd (k + 1, ⟨v3, h3⟩) (by dsimp only; omega) (hK := KSub.ownF pk ?_ ks)
      dsimp only; rw [hst]; first | (simp_all; done) | grind
    · refine rd (k + 1, ⟨v', hv'⟩) (by dsimp only; omega) (hK := KSub.ownF pk ?_ ks)
      dsimp only; rw [hst]; first | (simp_all; done) | grind
  rw [List.take_of_length_le hge]
  repeat' (first | refine E.st ?_ | refine E.q3 ?_ | refine E.q ?_ | refine E.qs ?_ | refine E.q2 ?_ | refine E.q4 ?_ | refine E.tr ?_ | refine E.ap (fun _ _ => ?_) | refine E.b1 (fun _ _ => ?_) | refine E.b0 (fun _ _ => ?_) | refine E.bsn (fun _ _ => ?_) | refine E.mk (fun _ _ => ?_) | refine E.bxO (fun _ => ?_) | refine E.al (fun _ => ?_) | refine E.sbO ?_ | refine E.dq ?_ | refine E.ct ?_ | refine E.cf ?_ | refine E.cs (fun hh => ?_) (fun hh => ?_) | refine E.at_block_other rfl ?_)
  exact r1 _
/-- Two slices that read under chunks. -/
def Rd2 (w0 : World) (K : List Ck) (v u : Value) (g : Gr) : Prop := RdIn w0 K v g.ns ∧ RdIn w0 K u g.es ∧ v.oneCell' = true ∧ u.oneCell' = true
theorem KSub.mid {X C M L : List Ck} (h : KSub X (C ++ (M ++ L))) : KSub X (M ++ (C ++ L)) := by
  obtain ⟨R, hp⟩ := h.perm
  refine KSub.ofPerm2 _ _ R (hp.trans (List.Perm.append_right R ?_))
  rw [← List.append_assoc, ← List.append_assoc]
  exact List.Perm.append_right L List.perm_append_comm
theorem c_l2Do {v u : Value} {g : Gr} {k nl nn el al an bl bn : Int} {w0 : World} {M L : List Ck} (w : World) (hw : KOk w0 (M ++ L) w) (hg : g.ok) (hr : RdIn w0 L v g.ns := by exact rdI) (hq : RdIn w0 L u g.es := by exact rdI) :
    Calls Try.prog 93 #[.agg #[v, u], .agg #[.int .i64 k, .int .i64 nl, .int .i64 nn, .int .i64 el, .int .i64 al, .int .i64 an, .int .i64 bl, .int .i64 bn]] w (RetK (fun z : { z : Value × Value × List Ck // Rd2 w0 (z.2.2 ++ L) z.1 z.2.1 (doG g ⟨k, ⟨nl, nn⟩, ⟨el, ⟨al, an⟩, ⟨bl, bn⟩⟩⟩).1 } => .tuple #[.agg #[z.1.1, z.1.2.1], .int .i64 (doG g ⟨k, ⟨nl, nn⟩, ⟨el, ⟨al, an⟩, ⟨bl, bn⟩⟩⟩).2]) (fun z => M ++ (z.1.2.2 ++ L)) w0) := by
  have hn40 := hg.1.len
  have he56 := hg.2.len
  have o1 := (RdIn.att hr hw).one
  have o2 := (RdIn.att hq hw).one
  refine enterK (args := _) hw Try.func93 rfl Try.ntmps93 (by simp) ?_
  repeat' (first | refine E.st ?_ | refine E.al (fun g4 => ?_) | refine E.cl (h := fun _ w _ => c_s_OpLabel w) (k := ?_) | refine E.cl (h := fun _ w _ => c_l2Ends w (ns := g.ns) (es := g.es)) (k := ?_) | refine E.cm (h := fun w _ => c_l2Cut w (es := g.es)) (k := fun z => ?_) | refine E.cm (h := fun w _ => c_l2Off w (ns := g.ns) (es := g.es)) (k := fun z => ?_) | refine E.dxq g4 [0, 2, 3, 5, 1, 4, 6, 7] ?_ | refine E.dxq g4 [0, 2, 3, 5, 1, 4, 6, 7] ?_ | refine E.cm (h := fun w _ => c_l2CopyS w (ns := g.ns) (es := g.es)) (k := fun z => ?_) | refine E.ckq (h := fun w hw => c_l2PutNode w hw (hu := by rfl)) (k := fun z => E.wy z.2 (fun hz => ?_)) | refine E.ckq (h := fun w hw => c_l2PutEdge w hw (hu := by rfl)) (k := fun z => E.wy z.2 (fun hz => ?_)) | refine E.q3 ?_ | refine E.q ?_ | refine E.qs ?_ | refine E.q2 ?_ | refine E.q4 ?_ | refine E.tr ?_ | refine E.ap (fun _ _ => ?_) | refine E.b1 (fun _ _ => ?_) | refine E.b0 (fun _ _ => ?_) | refine E.bsn (fun _ _ => ?_) | refine E.mk (fun _ _ => ?_) | refine E.bxO (fun _ => ?_) | refine E.al (fun _ => ?_) | refine E.sbO ?_ | refine E.dq ?_ | refine E.ct ?_ | refine E.cf ?_ | refine E.cs (fun hh => ?_) (fun hh => ?_) | refine E.at_block_other rfl ?_)
  · have e : doG g ⟨k, ⟨nl, nn⟩, ⟨el, ⟨al, an⟩, ⟨bl, bn⟩⟩⟩ = (⟨g.ns, g.es⟩, 1) := by
      unfold doG; rw [if_pos hh]
    rw [e]
    exact rnK (α := { z : Value × Value × List Ck // Rd2 w0 (z.2.2 ++ L) z.1 z.2.1 ⟨g.ns, g.es⟩ }) ⟨(v, u, []), hr, hq, o1, o2⟩ (hK := KSub.mid (show KSub _ (M ++ L) from SubL.ksub subl))
  · rename_i h0
    have e : doG g ⟨k, ⟨nl, nn⟩, ⟨el, ⟨al, an⟩, ⟨bl, bn⟩⟩⟩ = (⟨g.ns, g.es⟩, endsC g ⟨k, ⟨nl, nn⟩, ⟨el, ⟨al, an⟩, ⟨bl, bn⟩⟩⟩) := by
      unfold doG; rw [if_neg h0, if_pos hh]
    rw [e]
    exact rnK (α := { z : Value × Value × List Ck // Rd2 w0 (z.2.2 ++ L) z.1 z.2.1 ⟨g.ns, g.es⟩ }) ⟨(v, u, []), hr, hq, o1, o2⟩ (hK := KSub.mid (show KSub _ (M ++ L) from SubL.ksub subl))
  · rename_i h0 h1 z1
    have hk1 : k = 1 := hh
    have e : doG g ⟨k, ⟨nl, nn⟩, ⟨el, ⟨al, an⟩, ⟨bl, bn⟩⟩⟩ = (⟨insN g.ns ⟨nl, nn⟩, g.es⟩, 0) := by
      have hz1 : endsC g ⟨k, ⟨nl, nn⟩, ⟨el, ⟨al, an⟩, ⟨bl, bn⟩⟩⟩ = 0 := by simpa using h1
      unfold doG; rw [if_neg h0, if_neg (fun h => h hz1)]
      unfold turnG; simp [hk1]
    rw [e]
    rw [putN_ins hg.1.ord]
    exact rnK (α := { z : Value × Value × List Ck // Rd2 w0 (z.2.2 ++ L) z.1 z.2.1 ⟨insN g.ns ⟨nl, nn⟩, g.es⟩ }) ⟨(z.1, .slice z1.2.a z1.2.n z1.2.c, [ownF 29 z.1 (insN g.ns ⟨nl, nn⟩), ownF 31 (.slice z1.2.a z1.2.n z1.2.c) g.es]), RdIn.own (e := 29) (by simp), RdIn.own (e := 31) (by simp), z.2, rfl⟩ (hv := by rw [h1]) (hK := KSub.mid (KSub.pick pk (KSub.pick pk (show KSub _ (M ++ L) from SubL.ksub subl))))
  · rename_i h0 h1 h2 z1
    have hk1 : k = 2 := hh
    have e : doG g ⟨k, ⟨nl, nn⟩, ⟨el, ⟨al, an⟩, ⟨bl, bn⟩⟩⟩ = (⟨g.ns, insE g.es ⟨el, ⟨al, an⟩, ⟨bl, bn⟩⟩⟩, 0) := by
      have hz1 : endsC g ⟨k, ⟨nl, nn⟩, ⟨el, ⟨al, an⟩, ⟨bl, bn⟩⟩⟩ = 0 := by simpa using h1
      unfold doG; rw [if_neg h0, if_neg (fun h => h hz1)]
      unfold turnG; simp [hk1]
    rw [e]
    have heok : eok ⟨el, ⟨al, an⟩, ⟨bl, bn⟩⟩ = true := by
      rcases olab_cases (Int.not_lt.1 h0) with ⟨hc, _⟩ | ⟨_, hc, _⟩
      · dsimp only at hc; omega
      · exact hc
    rw [putE_ins hg.2 heok]
    exact rnK (α := { z : Value × Value × List Ck // Rd2 w0 (z.2.2 ++ L) z.1 z.2.1 ⟨g.ns, insE g.es ⟨el, ⟨al, an⟩, ⟨bl, bn⟩⟩⟩ }) ⟨(.slice z1.1.a z1.1.n z1.1.c, z.1, [ownF 31 z.1 (insE g.es ⟨el, ⟨al, an⟩, ⟨bl, bn⟩⟩), ownF 29 (.slice z1.1.a z1.1.n z1.1.c) g.ns]), RdIn.own (e := 29) (by simp), RdIn.own (e := 31) (by simp), rfl, z.2⟩ (hv := by rw [h1]) (hK := KSub.mid (KSub.pick pk (KSub.pick pk (show KSub _ (M ++ L) from SubL.ksub subl))))
  · rename_i h0 h1 h2 h3
    have hk1 : k = 3 := hh
    have e : doG g ⟨k, ⟨nl, nn⟩, ⟨el, ⟨al, an⟩, ⟨bl, bn⟩⟩⟩ = (⟨g.ns, g.es.filter (fun e => !decide (e = ⟨el, ⟨al, an⟩, ⟨bl, bn⟩⟩))⟩, 0) := by
      have hz1 : endsC g ⟨k, ⟨nl, nn⟩, ⟨el, ⟨al, an⟩, ⟨bl, bn⟩⟩⟩ = 0 := by simpa using h1
      unfold doG; rw [if_neg h0, if_neg (fun h => h hz1)]
      unfold turnG; simp [hk1]
    rw [e]
    exact rnK (α := { z : Value × Value × List Ck // Rd2 w0 (z.2.2 ++ L) z.1 z.2.1 ⟨g.ns, g.es.filter (fun e => !decide (e = ⟨el, ⟨al, an⟩, ⟨bl, bn⟩⟩))⟩ }) ⟨(v, .slice z.a z.n z.c, [ownF 31 (.slice z.a z.n z.c) (g.es.filter (fun e => !decide (e = ⟨el, ⟨al, an⟩, ⟨bl, bn⟩⟩)))]), RdIn.sub hr (SubL.ksub subl), RdIn.own (e := 31) (by simp), o1, rfl⟩ (hv := by rw [h1]) (hK := KSub.mid (KSub.pick pk (show KSub _ (M ++ L) from SubL.ksub subl)))
  · rename_i h0 h1 h2 h3
    have e : doG g ⟨k, ⟨nl, nn⟩, ⟨el, ⟨al, an⟩, ⟨bl, bn⟩⟩⟩ = (⟨g.ns.filter (fun x => !decide (x = ⟨nl, nn⟩)), g.es.filter (fun e => !decide (e.a = ⟨nl, nn⟩) && !decide (e.b = ⟨nl, nn⟩))⟩, 0) := by
      have hz1 : endsC g ⟨k, ⟨nl, nn⟩, ⟨el, ⟨al, an⟩, ⟨bl, bn⟩⟩⟩ = 0 := by simpa using h1
      unfold doG; rw [if_neg h0, if_neg (fun h => h hz1)]
      unfold turnG; simp [h2, h3, hh]
    rw [e]
    exact rnK (α := { z : Value × Value × List Ck // Rd2 w0 (z.2.2 ++ L) z.1 z.2.1 ⟨g.ns.filter (fun x => !decide (x = ⟨nl, nn⟩)), g.es.filter (fun e => !decide (e.a = ⟨nl, nn⟩) && !decide (e.b = ⟨nl, nn⟩))⟩ }) ⟨(.slice z.1.a z.1.n z.1.c, .slice z.2.a z.2.n z.2.c, [ownF 29 (.slice z.1.a z.1.n z.1.c) (g.ns.filter (fun x => !decide (x = ⟨nl, nn⟩))), ownF 31 (.slice z.2.a z.2.n z.2.c) (g.es.filter (fun e => !decide (e.a = ⟨nl, nn⟩) && !decide (e.b = ⟨nl, nn⟩)))]), RdIn.own (e := 29) (by simp), RdIn.own (e := 31) (by simp), rfl, rfl⟩ (hv := by rw [h1]) (hK := KSub.mid (KSub.pick pk (KSub.pick pk (show KSub _ (M ++ L) from SubL.ksub subl))))
end E
end Go.Proofs.Ytjdagbicjhmeeaa
