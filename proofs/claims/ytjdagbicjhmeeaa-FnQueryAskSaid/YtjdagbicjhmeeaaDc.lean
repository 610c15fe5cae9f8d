/- Contracts of the laws' helpers on graphs and worlds. -/
import Derived.Test.YtjdagbicjhmeeaaDb
namespace Go.Proofs.Ytjdagbicjhmeeaa
namespace E
open Go Go.RowKit
set_option linter.unusedSimpArgs false
set_option linter.unusedVariables false
set_option maxHeartbeats 1000000
set_option maxRecDepth 10000
attribute [local irreducible] HC HL HQ HX HO At Y YV Opd Opds KnX Sl Ld Src GV RV Calls Code.wp eptr adr RdF ownF OneX HG LdC
theorem c_szGraph_yes {v u : Value} {ns : List Nd} {es : List Eg} {k : Int} (w : World) (hr : RdF w v ns := by exact rdA) (hq : RdF w u es := by exact rdA) (h : (ns.length : Int) + es.length ≤ k := by omega) (hk : 0 ≤ k ∧ k ≤ 1048576 := by omega) : Calls Try.prog 14 #[.agg #[v, u], .int .i64 k] w (Ret (fun _ : Unit => .int .i64 (k - ns.length - es.length)) (fun _ => []) w) := by
  have o1 := hr.one
  have o2 := hq.one
  refine enter (args := _) Try.func14 rfl Try.ntmps14 (by simp) ?_
  repeat' (first | refine E.st ?_ | refine E.cl (h := fun _ w _ => c_szNodeS_yes w) (k := ?_) | refine E.cl (h := fun _ w _ => c_szEdgeS_yes w) (k := ?_)  | refine E.q ?_ | refine E.qs ?_ | refine E.q2 ?_ | refine E.tr ?_ | refine E.ap (fun _ _ => ?_) | refine E.b1 (fun _ _ => ?_) | refine E.b0 (fun _ _ => ?_) | refine E.bsn (fun _ _ => ?_) | refine E.mk (fun _ _ => ?_) | refine E.bx (fun _ => ?_) | refine E.al (fun _ => ?_) | refine E.sb ?_ | refine E.dq ?_ | refine E.ct ?_ | refine E.cf ?_ | refine E.cs (fun hh => ?_) (fun hh => ?_) | refine E.at_block_other rfl ?_)
  exact ri
theorem c_szGraph_no {v u : Value} {ns : List Nd} {es : List Eg} {k : Int} (w : World) (hr : RdF w v ns := by exact rdA) (hq : RdF w u es := by exact rdA) (h : ¬ (ns.length : Int) + es.length ≤ k := by omega) (hk : 0 ≤ k ∧ k ≤ 1048576 := by omega) : Calls Try.prog 14 #[.agg #[v, u], .int .i64 k] w (Ret (fun _ : Unit => .int .i64 (-1)) (fun _ => []) w) := by
  have o1 := hr.one
  have o2 := hq.one
  refine enter (args := _) Try.func14 rfl Try.ntmps14 (by simp) ?_
  by_cases h1 : (ns.length : Int) ≤ k
  · repeat' (first | refine E.st ?_ | refine E.cl (h := fun _ w _ => c_szNodeS_yes w) (k := ?_) | refine E.cl (h := fun _ w _ => c_szEdgeS_no w) (k := ?_)  | refine E.q ?_ | refine E.qs ?_ | refine E.q2 ?_ | refine E.tr ?_ | refine E.ap (fun _ _ => ?_) | refine E.b1 (fun _ _ => ?_) | refine E.b0 (fun _ _ => ?_) | refine E.bsn (fun _ _ => ?_) | refine E.mk (fun _ _ => ?_) | refine E.bx (fun _ => ?_) | refine E.al (fun _ => ?_) | refine E.sb ?_ | refine E.dq ?_ | refine E.ct ?_ | refine E.cf ?_ | refine E.cs (fun hh => ?_) (fun hh => ?_) | refine E.at_block_other rfl ?_)
    exact ri
  · repeat' (first | refine E.st ?_ | refine E.cl (h := fun _ w _ => c_szNodeS_no w) (k := ?_)  | refine E.q ?_ | refine E.qs ?_ | refine E.q2 ?_ | refine E.tr ?_ | refine E.ap (fun _ _ => ?_) | refine E.b1 (fun _ _ => ?_) | refine E.b0 (fun _ _ => ?_) | refine E.bsn (fun _ _ => ?_) | refine E.mk (fun _ _ => ?_) | refine E.bx (fun _ => ?_) | refine E.al (fun _ => ?_) | refine E.sb ?_ | refine E.dq ?_ | refine E.ct ?_ | refine E.cf ?_ | refine E.cs (fun hh => ?_) (fun hh => ?_) | refine E.at_block_other rfl ?_)
    exact ri
structure Wd where
  ps : List Pe
  ns : List Nd
  es : List Eg
  qs : List Pl
  ls : List Int
  deriving DecidableEq
/-- The five slices of a world read as it. -/
structure RdW (w : World) (v1 v2 v3 v4 v5 : Value) (d : Wd) : Prop where
  ps : RdF w v1 d.ps
  ns : RdF w v2 d.ns
  es : RdF w v3 d.es
  qs : RdN w v4 d.qs
  ls : RdF w v5 d.ls
theorem RdW.now {w0 w : World} {K : List Ck} {v1 v2 v3 v4 v5 : Value} {d : Wd} (h : RdW w0 v1 v2 v3 v4 v5 d) (hw : KOk w0 K w) : RdW w v1 v2 v3 v4 v5 d := ⟨h.ps.now hw, h.ns.now hw, h.es.now hw, h.qs.now hw, h.ls.now hw⟩
theorem rdW {w : World} {v1 v2 v3 v4 v5 : Value} {d : Wd} (h : RdW w v1 v2 v3 v4 v5 d := by first | assumption | exact RdW.now (by assumption) (by assumption)) : RdW w v1 v2 v3 v4 v5 d := h
def Wd.sz (d : Wd) : Nat := d.ps.length + d.ns.length + d.es.length + tot d.qs + d.ls.length
theorem c_eqGraph {v u v' u' : Value} {ns ns' : List Nd} {es es' : List Eg} (w : World) (hr : RdF w v ns := by exact rdA) (hq : RdF w u es := by exact rdA) (hr' : RdF w v' ns' := by exact rdA) (hq' : RdF w u' es' := by exact rdA) : Calls Try.prog 20 #[.agg #[v, u], .agg #[v', u']] w (Ret (fun _ : Unit => .bool (decide (ns = ns' ∧ es = es'))) (fun _ => []) w) := by
  have o1 := hr.one
  have o2 := hq.one
  have o3 := hr'.one
  have o4 := hq'.one
  refine enter (args := _) Try.func20 rfl Try.ntmps20 (by simp) ?_
  repeat' (first | refine E.st ?_ | refine E.cl (h := fun _ w _ => c_eqNodeS w) (k := ?_) | refine E.cl (h := fun _ w _ => c_eqEdgeS w) (k := ?_)  | refine E.q ?_ | refine E.qs ?_ | refine E.q2 ?_ | refine E.tr ?_ | refine E.ap (fun _ _ => ?_) | refine E.b1 (fun _ _ => ?_) | refine E.b0 (fun _ _ => ?_) | refine E.bsn (fun _ _ => ?_) | refine E.mk (fun _ _ => ?_) | refine E.bx (fun _ => ?_) | refine E.al (fun _ => ?_) | refine E.sb ?_ | refine E.dq ?_ | refine E.ct ?_ | refine E.cf ?_ | refine E.cs (fun hh => ?_) (fun hh => ?_) | refine E.at_block_other rfl ?_)
  all_goals (refine rb ?_; simp_all)
theorem c_toGraph {v u : Value} {ns : List Nd} {es : List Eg} (w : World) (hr : RdF w v ns := by exact rdA) (hq : RdF w u es := by exact rdA) (hn : ns.length ≤ 1048576 := by omega) (he : es.length ≤ 1048576 := by omega) : Calls Try.prog 16 #[.agg #[v, u]] w (Ret (fun z : Sv × Sv => .agg #[.slice z.1.a z.1.n z.1.c, .slice z.2.a z.2.n z.2.c]) (fun z => [ownF 31 (.slice z.2.a z.2.n z.2.c) es, ownF 29 (.slice z.1.a z.1.n z.1.c) ns]) w) := by
  have o1 := hr.one
  have o2 := hq.one
  refine enter (args := _) Try.func16 rfl Try.ntmps16 (by simp) ?_
  repeat' (first | refine E.st ?_ | refine E.cm (h := fun w _ => c_toNodeS w) (k := fun s1 => ?_) | refine E.cm (h := fun w _ => c_toEdgeS w) (k := fun s2 => ?_) | refine E.q ?_ | refine E.qs ?_ | refine E.q2 ?_ | refine E.tr ?_ | refine E.ap (fun _ _ => ?_) | refine E.b1 (fun _ _ => ?_) | refine E.b0 (fun _ _ => ?_) | refine E.bsn (fun _ _ => ?_) | refine E.mk (fun _ _ => ?_) | refine E.bx (fun _ => ?_) | refine E.al (fun _ => ?_) | refine E.sb ?_ | refine E.dq ?_ | refine E.ct ?_ | refine E.cf ?_ | refine E.cs (fun hh => ?_) (fun hh => ?_) | refine E.at_block_other rfl ?_)
  exact r1 (_, _)
/-- The chunks of a world of one's own. -/
def wck (s1 s2 s3 s4 s5 : Sv) (rows : List PlR) (d : Wd) : List Ck := ownF 3 (.slice s5.a s5.n s5.c) d.ls :: ownF 179 (.slice s4.a s4.n s4.c) rows :: (inn 192 rows d.qs ++ [ownF 31 (.slice s3.a s3.n s3.c) d.es, ownF 29 (.slice s2.a s2.n s2.c) d.ns, ownF 40 (.slice s1.a s1.n s1.c) d.ps])
theorem RdW.ofK {w0 w : World} {K : List Ck} {s1 s2 s3 s4 s5 : Sv} {rows : List PlR} {d : Wd} (hw : KOk w0 K w) (hM : Match rows d.qs) (hs : InK (wck s1 s2 s3 s4 s5 rows d) K) : RdW w (.slice s1.a s1.n s1.c) (.slice s2.a s2.n s2.c) (.slice s3.a s3.n s3.c) (.slice s4.a s4.n s4.c) (.slice s5.a s5.n s5.c) d := by
  have h := hs.mem
  have hin : ∀ k, k ∈ inn 192 rows d.qs → k ∈ wck s1 s2 s3 s4 s5 rows d := fun k hk => by
    simp only [wck, List.mem_cons, List.mem_append]
    exact Or.inr (Or.inr (Or.inl hk))
  exact ⟨RdF.of_own (e := 40) (h _ (by simp [wck])) hw, RdF.of_own (e := 29) (h _ (by simp [wck])) hw, RdF.of_own (e := 31) (h _ (by simp [wck])) hw, RdN.of_own (e0 := 179) (e := 192) hw hM (h _ (by simp [wck])) (fun k hk => h k (hin k hk)), RdF.of_own (e := 3) (h _ (by simp [wck])) hw⟩
theorem KSub.ofPerm2 : ∀ (K' K K2 : List Ck), K.Perm (K' ++ K2) → KSub K K'
  | [], K, _, _ => .nil K
  | k :: K1, K, K2, h => by
    obtain ⟨s, t, rfl⟩ := List.append_of_mem (h.mem_iff.2 (List.mem_append_left K2 (List.mem_cons_self (a := k) (l := K1))))
    have h2 : (s ++ t).Perm (K1 ++ K2) := List.Perm.cons_inv ((List.perm_middle).symm.trans h)
    exact .pick (Pick.mid s t k) (KSub.ofPerm2 K1 _ K2 h2)
theorem KSub.drop1 {K K' : List Ck} {k : Ck} (h : KSub K K') : KSub (k :: K) K' := by
  obtain ⟨K2, hp⟩ := h.perm
  exact KSub.ofPerm2 K' _ (k :: K2) ((hp.cons k).trans List.perm_middle.symm)
theorem KSub.app {K K' L : List Ck} (h : KSub K K') : KSub (L ++ K) (L ++ K') := by
  obtain ⟨K2, hp⟩ := h.perm
  refine KSub.ofPerm2 _ _ K2 ?_
  rw [List.append_assoc]
  exact hp.append_left L
theorem pool_sv {P : Program} {f : FuncId} {args : Array Value} {w : World} {e0 e : TypeId} {ps : List Pl} (h : Calls P f args w (Ret (fun z : Value × { xs : List PlR // Match xs ps } => z.1) (fun z => ownF e0 z.1 z.2.1 :: inn e z.2.1 ps) w)) :
    Calls P f args w (Ret (fun z : Sv × { xs : List PlR // Match xs ps } => .slice z.1.a z.1.n z.1.c) (fun z => ownF e0 (.slice z.1.a z.1.n z.1.c) z.2.1 :: inn e z.2.1 ps) w) := h.mono fun en w' ⟨z, he, hk⟩ => by
  obtain ⟨s, hs⟩ := ownF_sv (List.mem_cons_self) hk
  obtain ⟨v, r⟩ := z
  simp only at hs
  subst hs
  exact ⟨(s, r), he, hk⟩
end E
end Go.Proofs.Ytjdagbicjhmeeaa
