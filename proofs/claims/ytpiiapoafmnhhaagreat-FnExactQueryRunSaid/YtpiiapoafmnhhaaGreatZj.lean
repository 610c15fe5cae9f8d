/- What is read for an answer, as the program reads it. -/
import Derived.Test.YtpiiapoafmnhhaaGreatZi
import Derived.Test.YtpiiapoafmnhhaaGreatZf
import Derived.Test.YtpiiapoafmnhhaaGreatM16
namespace Go.Proofs.YtpiiapoafmnhhaaGreat
namespace E
open Go Go.RowKit
set_option linter.unusedSimpArgs false
set_option linter.unusedVariables false
set_option maxHeartbeats 1000000
set_option maxRecDepth 10000
attribute [local irreducible] HC HL HQ HX HO At Y YV Opd Opds KnX Sl Ld Src GV RV Calls Code.wp eptr adr RdF ownF OneX HG LdC
theorem KSub.trans {A B C : List Ck} (h1 : KSub A B) (h2 : KSub B C) : KSub A C := by
  obtain ⟨X, h1⟩ := h1.perm
  obtain ⟨Y, h2⟩ := h2.perm
  exact KSub.ofPermG C A (Y ++ X) (h1.trans (by rw [← List.append_assoc]; exact h2.append_right X))
theorem ks_snocP {k : Ck} {K L M : List Ck} (h : KSub K (k :: (L ++ M))) : KSub K ((L ++ [k]) ++ M) := KSub.trans h ks_snoc
theorem heads_step {ss : List Sg} {k : Nat} {s : Sg} (h : ss[k]? = some s) : headsS (ss.take (k + 1)) = headsS (ss.take k) ++ spanL s.l 0 (hdS s) := by unfold headsS; exact fl_step h
theorem c_classRead_s {s : ByteArray} {c : Cls} (w : World) (h : clR (bn s) = some c) (hs : s.size ≤ 4000000 := by omega) :
    Calls Tryz.prog 96 #[.string s] w (Ret (fun z : Sv × Sv × { xs : List RwR // Match xs c.rows } => .tuple #[.agg #[.slice z.1.a z.1.n z.1.c, .int .i64 (c.hd : Int), .slice z.2.1.a z.2.1.n z.2.1.c], .bool true]) (fun z => [ownF 131 (.slice z.2.1.a z.2.1.n z.2.1.c) z.2.2.1]) w) := by
  have h0 := c_classRead (s := s) w
  rw [h] at h0
  refine h0.mono fun en w' ⟨z, he, hk⟩ => ?_
  obtain ⟨⟨v1, h1⟩, ⟨v2, h2⟩, ⟨xs, hM⟩⟩ := z
  obtain ⟨s1, rfl⟩ := ownF_sv (List.mem_cons_self) hk
  obtain ⟨s2, rfl⟩ := ownF_sv (List.mem_cons_of_mem _ List.mem_cons_self) hk
  exact ⟨(s1, s2, ⟨xs, hM⟩), he, hk.sub (KSub.drop1 (KSub.pick (Pick.here _ _) (KSub.nil _)))⟩
/-- What was read of a label, as it lies there. -/
structure CpR where
  nm : Sv
  hd : Int
  s : Sv
structure CpD where
  hd : Int
  rs : List RwR
instance : Flat CpR := ⟨3, fun x => [.slice x.nm.a x.nm.n x.nm.c, .int .i64 x.hd, .slice x.s.a x.s.n x.s.c], fun _ => rfl, fun _ u h => by simp only [List.mem_cons, List.mem_nil_iff, or_false] at h; (repeat' (rcases h with rfl | h)) <;> first | rfl | (subst h; rfl)⟩
instance (A A' : Option Addr) (n cp n' cp' : Nat) (h : Int) : MkI CpR [.slice A n cp, .int .i64 h, .slice A' n' cp'] ⟨⟨A, n, cp⟩, h, ⟨A', n', cp'⟩⟩ := ⟨rfl⟩
instance : ElT Tryz.prog 127 CpR := ⟨trivial⟩
instance : Nst CpD CpR RwR := ⟨(·.s), (·.rs), fun x d => x.hd = d.hd⟩
abbrev CpZ : CpR := ⟨⟨none, 0, 0⟩, 0, ⟨none, 0, 0⟩⟩
/-- What was read is what stands in the store of a right graph. -/
def CpOk (g : Gr) (ss : List Sg) (ds : List CpD) : Prop := ds.length ≤ ss.length ∧ ∀ (i : Nat) (s : Sg) (d : CpD), ss[i]? = some s → ds[i]? = some d → d.hd = ((clsG g s.l).hd : Int) ∧ Match d.rs (clsG g s.l).rows
theorem CpOk.snoc {g : Gr} {ss : List Sg} {ds : List CpD} {s : Sg} {d : CpD} (h : CpOk g ss ds) (hs : ss[ds.length]? = some s) (h1 : d.hd = ((clsG g s.l).hd : Int)) (h2 : Match d.rs (clsG g s.l).rows) : CpOk g ss (ds ++ [d]) := by
  have hlt := (List.getElem?_eq_some_iff.1 hs).1
  refine ⟨by rw [List.length_append]; simp; omega, fun i s' d' hs' hd' => ?_⟩
  rcases Nat.lt_or_ge i ds.length with hi | hi
  · rw [List.getElem?_append_left hi] at hd'
    exact h.2 i s' d' hs' hd'
  · have hi2 := (List.getElem?_eq_some_iff.1 hd').1
    rw [List.length_append] at hi2
    simp at hi2
    have : i = ds.length := by omega
    subst this
    rw [hs] at hs'
    rw [List.getElem?_append_right (by omega), Nat.sub_self] at hd'
    simp only [List.getElem?_cons_zero, Option.some.injEq] at hs' hd'
    subst hs' hd'
    exact ⟨h1, h2⟩
def rowQ (c a : Int) (r : Rw) : List Pg := if r.code = c then spanL a r.fr r.to else []
theorem rowQ_len (c a : Int) (r : Rw) : (rowQ c a r).length ≤ 1000 := by
  unfold rowQ; split
  · exact spanL_len _ _ _
  · simp
theorem rowQ_none {c a : Int} : ∀ {rows : List Rw}, c ∉ rows.map (·.code) → rows.flatMap (rowQ c a) = []
  | [], _ => rfl
  | r :: rs, h => by
    simp only [List.map_cons, List.mem_cons, not_or] at h
    rw [List.flatMap_cons, rowQ_none h.2]
    unfold rowQ
    rw [if_neg (fun e => h.1 e.symm)]
    rfl
theorem rowQ_flat {c a : Int} : ∀ {rows : List Rw}, (rows.map (·.code)).Nodup → rows.flatMap (rowQ c a) = spanL a (rowOf rows c).1 (rowOf rows c).2
  | [], _ => by
    have : spanL a 0 0 = [] := by unfold spanL; rw [if_neg (by omega)]
    exact this.symm
  | r :: rs, h => by
    simp only [List.map_cons, List.nodup_cons] at h
    rw [List.flatMap_cons]
    by_cases e : r.code = c
    · have h1 : rowQ c a r = spanL a r.fr r.to := if_pos e
      have h2 : rowOf (r :: rs) c = (r.fr, r.to) := by unfold rowOf; rw [List.find?_cons_of_pos (by simpa using e)]
      rw [rowQ_none (by rw [← e]; exact h.1), h1, h2, List.append_nil]
    · have h1 : rowQ c a r = [] := if_neg e
      have h2 : rowOf (r :: rs) c = rowOf rs c := by unfold rowOf; rw [List.find?_cons_of_neg (by simpa using e)]
      rw [h1, h2, List.nil_append]
      exact rowQ_flat h.2
theorem clsG_nd {g : Gr} (h : g.ok) (a : Int) : ((clsG g a).rows.map (·.code)).Nodup := by
  unfold clsG
  dsimp only
  rw [rowPos_codes]
  have ho := ord_endN (onlyE_eok h (a := a))
  have h1 : ((endN (onlyE g.es a)).map cd).Pairwise (· < ·) := by rw [List.pairwise_map]; exact ho.2
  exact h1.imp (fun h => by omega)
theorem order_len {g : Gr} (h : g.ok) (q : Qu) : (orderL g q).length ≤ 41 := by
  unfold orderL
  split
  · simp
  · split
    · by_cases hm : q.n ∈ g.ns
      · rw [wave_eq h hm, ndL_len]
        have := (BI.bfs (AOk.of h) (plc_ok hm).2.2).mlen
        have := h.1.len
        omega
      · have : waveL g q.n = [] := if_neg hm
        rw [this]; simp
    · have := h.1.len; omega
theorem order_nok {g : Gr} (h : g.ok) {q : Qu} (hq : qok q = true) : ∀ x ∈ orderL g q, nok x = true := by
  unfold orderL
  split
  · rename_i hk
    intro x hx
    rw [List.mem_singleton] at hx
    subst hx
    simp [qok, hk] at hq
    exact hq
  · split
    · unfold waveL
      split
      · intro x hx
        obtain ⟨i, _, hi⟩ := List.mem_filterMap.1 hx
        exact h.1.1 x (List.mem_of_getElem? hi)
      · intro x hx; cases hx
    · exact fun x hx => h.1.1 x hx
set_option maxHeartbeats 8000000 in
theorem c_queryRead {v : Value} {xs : List Sg} {g0 : Gr} {c k l n : Int} (w : World) (hs : ∀ s ∈ xs, s.b.size ≤ 4000000) (hl : xs.length ≤ 2000000) (e1 : readL xs = some g0) (hc : lok c = true) (hq : qok ⟨k, ⟨l, n⟩⟩ = true) (hr : RdF w v xs := by exact rdA) :
    Calls Tryz.prog 65 #[v, .int .i64 c, .agg #[.int .i64 k, .int .i64 l, .int .i64 n]] w (Ret (fun z : V1 × V1 × V1 => .tuple #[.agg #[z.1.1, z.2.1.1], z.2.2.1, .bool true]) (fun z => [ownF 32 z.1.1 (view g0 c).ns, ownF 84 z.2.1.1 (view g0 c).es, ownF 63 z.2.2.1 (pagesL (view g0 c) ⟨k, ⟨l, n⟩⟩)]) w) := by
  have o1 := hr.one
  have hg := (readL_some e1).1
  have hgv : (view g0 c).ok := hg.view
  have e2 := read_view (c := c) e1
  have hst := (readL_some e2).2.1
  have hv : ∀ s ∈ viewS xs c, s.b.size ≤ 4000000 := fun s h => hs s (view_mem h)
  have hsl : (viewS xs c).length ≤ 8 := by rw [← hst]; exact storeL_len _
  have hcls : ∀ s ∈ viewS xs c, clR (bn s.b) = some (clsG (view g0 c) s.l) ∧ clsA (bn s.b) = some (clsG (view g0 c) s.l) ∧ ((clsG (view g0 c) s.l).hd ≤ 8000 ∧ ∀ r ∈ (clsG (view g0 c) s.l).rows, r.fr ≤ 8000 ∧ r.to ≤ 8000) ∧ (clsG (view g0 c) s.l).rows.length ≤ 14 := fun s h => by
    have h1 : s ∈ storeL (view g0 c) := by rw [hst]; exact h
    have h2 := clR_sg hgv h1
    obtain ⟨h3, h4, h5, h6⟩ := clsA_mem hgv h1
    have h7 := clsG_in hgv h4 h5
    have h8 := seg_small hgv h4
    exact ⟨h2, h3, ⟨by omega, fun r hr => by have := h7.2.2 r hr; omega⟩, clR_len h2⟩
  have hR1 : ∀ w, RdF w v xs → Calls Tryz.prog 32 #[v] w (Ret (fun z : V1 × V1 => .tuple #[.agg #[z.1.1, z.2.1], .bool true]) (fun z => [ownF 32 z.1.1 g0.ns, ownF 84 z.2.1 g0.es]) w) := fun w h => by
    have := c_i_StoreRead w hs h
    rw [e1] at this
    exact this
  have hR2 : ∀ u w, RdF w u (viewS xs c) → Calls Tryz.prog 32 #[u] w (Ret (fun z : V1 × V1 => .tuple #[.agg #[z.1.1, z.2.1], .bool true]) (fun z => [ownF 32 z.1.1 (view g0 c).ns, ownF 84 z.2.1 (view g0 c).es]) w) := fun u w h => by
    have := c_i_StoreRead w hv h
    rw [e2] at this
    exact this
  have hL : ∀ w, Calls Tryz.prog 34 #[.int .i64 c] w (Ret (fun _ : Unit => .bool true) (fun _ => []) w) := fun w => by rw [← hc]; exact c_i_LabelOk w
  have hQN : ∀ u u' w, RdF w u (view g0 c).ns → RdF w u' (view g0 c).es → Calls Tryz.prog 129 #[.agg #[u, u'], .agg #[.int .i64 k, .int .i64 l, .int .i64 n]] w (Ret (fun z : QnT u (view g0 c).ns (orderL (view g0 c) ⟨k, ⟨l, n⟩⟩) => z.1.1.1) (fun z => z.1.2) w) := fun u u' w h1 h2 => c_queryNodes w hgv h1 h2
  have hon := order_nok hgv hq
  have hol := order_len hgv ⟨k, ⟨l, n⟩⟩
  have hpv : pagesL (view g0 c) ⟨k, ⟨l, n⟩⟩ = headsS (viewS xs c) ++ (orderL (view g0 c) ⟨k, ⟨l, n⟩⟩).flatMap (nodeS (viewS xs c)) := (pages_view (q := ⟨k, ⟨l, n⟩⟩) e1).symm
  have hcnd := fun a => clsG_nd hgv a
  rw [hpv]
  generalize hO : orderL (view g0 c) ⟨k, ⟨l, n⟩⟩ = O at *
  generalize hS : viewS xs c = S at *
  generalize hG : view g0 c = G at *
  have hhl := headS_len S
  have hSv : ∀ w, RdF w v xs → Calls Tryz.prog 36 #[v, .int .i64 c] w (Ret (fun s : Sv => .slice s.a s.n s.c) (fun s => [ownF 65 (.slice s.a s.n s.c) S]) w) := fun w h => by
    have := c_i_StoreView (c := c) w h hl
    rw [hS] at this
    exact this
  refine enter (args := _) Tryz.func65 rfl Tryz.ntmps65 (by simp) ?_
  refine E.nl 63 (α := Pg) ?_
  repeat' (first | refine E.st ?_ | refine E.ug ?_ | refine E.al (fun _ => ?_) | refine E.cm (h := fun w hw => hSv w (hr.now hw)) (k := fun z0 => ?_) | refine E.cm (h := fun w hw => hR1 w (hr.now hw)) (k := fun z1 => E.wy z1.1.2 (fun a1 => E.wy z1.2.2 (fun a2 => ?_))) | refine E.cm (h := fun w hw => hR2 _ w (RdF.ofK hw)) (k := fun z2 => E.wy z2.1.2 (fun b1 => E.wy z2.2.2 (fun b2 => ?_))) | refine E.cl (h := fun _ w hw => hL w) (k := ?_) | refine E.cl (h := fun _ w _ => c_i_QueryOk_t w hq) (k := ?_) | refine E.mk (α := CpR) (z' := CpZ) (fun v15 h15 => ?_) | refine E.q3 ?_ | refine E.q ?_ | refine E.qs ?_ | refine E.q2 ?_ | refine E.q4 ?_ | refine E.tr ?_ | refine E.ap (fun _ _ => ?_) | refine E.b1 (fun _ _ => ?_) | refine E.b0 (fun _ _ => ?_) | refine E.bsn (fun _ _ => ?_) | refine E.mk (fun _ _ => ?_) | refine E.bxO (fun _ => ?_) | refine E.al (fun _ => ?_) | refine E.sbO ?_ | refine E.dq ?_ | refine E.ct ?_ | refine E.cf ?_ | refine E.cs (fun hh => ?_) (fun hh => ?_) | refine E.at_block_other rfl ?_)
  all_goals first
    | (exfalso; simp at hh; done)
    | skip
  rename_i g5 g6 g9 g12
  refine hcf [(58, .pl (.int .i64 0)), (57, .pl (.int .i64 (S.length : Int))), (56, .pl (.slice z0.a z0.n z0.c)), (15, .pl v15), (14, .pl (.slice none 0 0)), (12, .pl (.pointer (some ⟨g12, 0, none⟩))), (11, .pl (.slice z0.a z0.n z0.c)), (5, .pl (.pointer (some ⟨g5, 0, none⟩))), (6, .pl (.pointer (some ⟨g6, 0, none⟩)))] ?_
  refine lq (fun y : Nat × V1 × List CpR × List CpD => y.1 ≤ S.length ∧ y.2.2.2.length = y.1 ∧ Match y.2.2.1 y.2.2.2 ∧ CpOk G S y.2.2.2) (fun y => [(58, .pl (.int .i64 (y.1 : Int))), (14, .pl y.2.1.1)]) (fun y => ownF 127 v15 (y.2.2.1 ++ List.replicate (S.length - y.1) CpZ) :: ownF 63 y.2.1.1 (headsS (S.take y.1)) :: inn 131 y.2.2.1 y.2.2.2) (fun y => S.length - y.1) (0, ⟨.slice none 0 0, rfl⟩, [], []) ⟨Nat.zero_le _, rfl, Match.nil, ⟨by simp, fun i s d _ h => by simp at h⟩⟩ (fun y hy => ?_) (hK := by exact Spl.ownF pk (by simp) (Spl.ownF pk (by simp [headsS]) (Spl.nil _)))
  obtain ⟨i, ⟨vP, hP⟩, cs, ds⟩ := y
  obtain ⟨hi, hdl, hM, hCp⟩ := hy
  dsimp only at hi hdl hM hCp hP ⊢
  simp only [List.append_eq, List.nil_append, List.cons_append]
  have hcl : cs.length = i := by rw [hM.1, hdl]
  have hhi := headS_take_len S i
  rcases Nat.lt_or_ge i S.length with hilt | hige
  · obtain ⟨⟨sl, sb⟩, hx⟩ := get_lt hilt
    obtain ⟨q1, q2, ⟨q3, _⟩, _⟩ := hcls _ (List.mem_of_getElem? hx)
    have hsb := hv _ (List.mem_of_getElem? hx)
    dsimp only at q1 q2 q3 hsb
    have hst2 := heads_step hx
    have hhd : hdS (⟨sl, sb⟩ : Sg) = (clsG G sl).hd := by unfold hdS; rw [q2]
    rw [hhd] at hst2
    dsimp only at hst2
    have hcnil : (cs ++ List.replicate (S.length - i) CpZ)[i]? = some CpZ := by
      rw [List.getElem?_append_right (by omega), hcl, Nat.sub_self, List.getElem?_replicate, if_pos (by omega)]
    have hRl : (cs ++ List.replicate (S.length - i) CpZ).length = S.length := by simp; omega
    have hsl2 := spanL_len sl 0 (clsG G sl).hd
    have hset : ∀ x, (cs ++ List.replicate (S.length - i) CpZ).set i x = (cs ++ [x]) ++ List.replicate (S.length - (i + 1)) CpZ := fun x => by
      rw [List.set_append_right _ _ (by omega), hcl, Nat.sub_self, show S.length - i = (S.length - (i + 1)) + 1 from by omega, List.replicate_succ, List.set_cons_zero, List.append_assoc]
      rfl
    repeat' (first | refine E.st ?_ | refine E.cm (h := fun w hw => c_classRead_s w q1) (k := fun zc => ?_) | refine E.trn (fun R hR1 hR2 hR3 => ?_) | refine E.dxo vP (i := 14) [0, 1, 2, 3, 4, 5, 6, 7, 8, 9, 10] ?_ | refine E.cm (h := fun w _ => c_i_PageSpan (a := sl) (fr := 0) (to := (clsG G sl).hd) w) (k := fun zp => ?_) | refine E.apI (hs := RdIn.own memO) (hr := fun v9 h9 => ?_) | refine E.q3 ?_ | refine E.q ?_ | refine E.qs ?_ | refine E.q2 ?_ | refine E.q4 ?_ | refine E.tr ?_ | refine E.ap (fun _ _ => ?_) | refine E.b1 (fun _ _ => ?_) | refine E.b0 (fun _ _ => ?_) | refine E.bsn (fun _ _ => ?_) | refine E.mk (fun _ _ => ?_) | refine E.bxO (fun _ => ?_) | refine E.al (fun _ => ?_) | refine E.sbO ?_ | refine E.dq ?_ | refine E.ct ?_ | refine E.cf ?_ | refine E.cs (fun hh => ?_) (fun hh => ?_) | refine E.at_block_other rfl ?_)
    all_goals first
      | (refine rd (α := Nat × V1 × List CpR × List CpD) (i + 1, ⟨_, by assumption⟩, cs ++ [⟨⟨zc.1.a, zc.1.n, zc.1.c⟩, ((clsG G sl).hd : Int), ⟨zc.2.1.a, zc.2.1.n, zc.2.1.c⟩⟩], ds ++ [⟨((clsG G sl).hd : Int), zc.2.2.1⟩]) ⟨hilt, by dsimp only; rw [List.length_append]; simp; omega, hM.snoc1 rfl, hCp.snoc (s := ⟨sl, sb⟩) (by rw [hdl]; exact hx) rfl zc.2.2.2⟩ (by dsimp only; omega) (hK := ?_)
         dsimp only
         rw [inn_snoc1 hM]
         refine KSub.ownF pk (hR1.trans (hset _)) (KSub.ownF pk hst2.symm ?_)
         exact ks_snocP ksv)
      | (exfalso; simp at hh; done)
      | trace_state
  · have hie : i = S.length := by omega
    subst hie
    rw [List.take_length, Nat.sub_self, List.replicate_zero, List.append_nil]
    repeat' (first | refine E.st ?_ | refine E.cm (h := fun w hw => hQN z2.1.1 z2.2.1 w (RdF.ofK hw) (RdF.ofK hw)) (k := fun zn => E.wy zn.1.1.2 (fun hno => E.wy (QnT.rd (w0 := w) zn) (fun hN => ?_))) | refine E.q3 ?_ | refine E.q ?_ | refine E.qs ?_ | refine E.q2 ?_ | refine E.q4 ?_ | refine E.tr ?_ | refine E.ap (fun _ _ => ?_) | refine E.b1 (fun _ _ => ?_) | refine E.b0 (fun _ _ => ?_) | refine E.bsn (fun _ _ => ?_) | refine E.mk (fun _ _ => ?_) | refine E.bxO (fun _ => ?_) | refine E.al (fun _ => ?_) | refine E.sbO ?_ | refine E.dq ?_ | refine E.ct ?_ | refine E.cf ?_ | refine E.cs (fun hh => ?_) (fun hh => ?_) | refine E.at_block_other rfl ?_)
    generalize zn.1.1.1 = vn at *
    generalize zn.1.2 = M at *
    obtain ⟨⟨u1, hu1⟩, ⟨u2, hu2⟩⟩ := z2
    dsimp only at *
    refine hcf [(87, .pl (.int .i64 0)), (86, .pl (.int .i64 (O.length : Int))), (85, .pl vn), (15, .pl v15), (14, .pl vP), (12, .pl (.pointer (some ⟨g12, 0, none⟩))), (11, .pl (.slice z0.a z0.n z0.c)), (6, .pl (.pointer (some ⟨g6, 0, none⟩)))] ?_
    refine lq (fun y : Nat × V1 => y.1 ≤ O.length) (fun y => [(87, .pl (.int .i64 (y.1 : Int))), (14, .pl y.2.1)]) (fun y => [ownF 63 y.2.1 (headsS S ++ (O.take y.1).flatMap (nodeS S))]) (fun y => O.length - y.1) (0, ⟨vP, hP⟩) (Nat.zero_le _) (fun y hy => ?_) (hK := by exact Spl.ownF pk (by simp) (Spl.nil _))
    obtain ⟨j, ⟨vQ, hQ⟩⟩ := y
    dsimp only at hy hQ ⊢
    simp only [List.append_eq, List.nil_append, List.cons_append]
    have hf1 := fl_len (f := nodeS S) (m := 8000) (nodeS_len S hsl) (O.take j)
    have htj : (O.take j).length ≤ 41 := by rw [List.length_take]; omega
    have hlq : (headsS S ++ (O.take j).flatMap (nodeS S)).length ≤ 400000 := by rw [List.length_append]; omega
    rcases Nat.lt_or_ge j O.length with hjlt | hjge
    · obtain ⟨⟨xl, xn⟩, hxo⟩ := get_lt hjlt
      have hxn := hon _ (List.mem_of_getElem? hxo)
      have hst3 := flatMap_take (nodeS S) hxo
      rw [nodeS_eq] at hst3
      have hlv : RdIn w (M ++ [ownF 32 u1 G.ns]) vn O := hN
      repeat' (first | refine E.st ?_ | refine E.q3 ?_ | refine E.q ?_ | refine E.qs ?_ | refine E.q2 ?_ | refine E.q4 ?_ | refine E.tr ?_ | refine E.ap (fun _ _ => ?_) | refine E.b1 (fun _ _ => ?_) | refine E.b0 (fun _ _ => ?_) | refine E.bsn (fun _ _ => ?_) | refine E.mk (fun _ _ => ?_) | refine E.bxO (fun _ => ?_) | refine E.al (fun _ => ?_) | refine E.sbO ?_ | refine E.dq ?_ | refine E.ct ?_ | refine E.cf ?_ | refine E.cs (fun hh => ?_) (fun hh => ?_) | refine E.at_block_other rfl ?_)
      rename_i g19
      refine lq (fun y : Nat × V1 => y.1 ≤ S.length) (fun y => [(93, .pl (.int .i64 (y.1 : Int))), (14, .pl y.2.1)]) (fun y => [ownF 63 y.2.1 ((headsS S ++ (O.take j).flatMap (nodeS S)) ++ (S.take y.1).flatMap (spanR (cd ⟨xl, xn⟩)))]) (fun y => S.length - y.1) (0, ⟨vQ, hQ⟩) (Nat.zero_le _) (fun y hy => ?_) (hK := by exact Spl.ownF pk (by simp) (Spl.nil _))
      obtain ⟨i, ⟨vR, hR⟩⟩ := y
      dsimp only at hy hR ⊢
      simp only [List.append_eq, List.nil_append, List.cons_append]
      have hf2 := fl_len (f := spanR (cd ⟨xl, xn⟩)) (m := 1000) (fun s => spanL_len _ _ _) (S.take i)
      have hti : (S.take i).length ≤ 8 := by rw [List.length_take]; omega
      have hlr : ((headsS S ++ (O.take j).flatMap (nodeS S)) ++ (S.take i).flatMap (spanR (cd ⟨xl, xn⟩))).length ≤ 500000 := by rw [List.length_append]; omega
      rcases Nat.lt_or_ge i S.length with hilt | hige
      · obtain ⟨⟨sl, sb⟩, hx⟩ := get_lt hilt
        obtain ⟨q1, q2, ⟨q3, q4⟩, q5⟩ := hcls _ (List.mem_of_getElem? hx)
        dsimp only at q1 q2 q3 q4 q5
        obtain ⟨⟨cn, ch, cs0⟩, hxc⟩ := get_lt (xs := cs) (k := i) (by omega)
        obtain ⟨⟨dh, rs⟩, hxd⟩ := get_lt (xs := ds) (k := i) (by omega)
        have hmd := hCp.2 i _ _ hx hxd
        obtain ⟨_, hMr⟩ := hmd
        dsimp only at hMr
        have hj : RdIn w (inn 131 cs ds ++ []) (.slice cs0.a cs0.n cs0.c) rs := RdIn.own (List.mem_append_left _ (inn_mem hxc hxd))
        have hst4 := flatMap_take (spanR (cd ⟨xl, xn⟩)) hx
        have hsp : spanR (cd ⟨xl, xn⟩) ⟨sl, sb⟩ = (clsG G sl).rows.flatMap (rowQ (cd ⟨xl, xn⟩) sl) := by
          rw [rowQ_flat (hcnd sl)]
          unfold spanR rowS
          rw [q2]
        rw [hsp] at hst4
        generalize (clsG G sl).rows = rows at *
        have hrsl : rs.length = rows.length := hMr.1
        repeat' (first | refine E.st ?_ | refine E.q3 ?_ | refine E.q ?_ | refine E.qs ?_ | refine E.q2 ?_ | refine E.q4 ?_ | refine E.tr ?_ | refine E.ap (fun _ _ => ?_) | refine E.b1 (fun _ _ => ?_) | refine E.b0 (fun _ _ => ?_) | refine E.bsn (fun _ _ => ?_) | refine E.mk (fun _ _ => ?_) | refine E.bxO (fun _ => ?_) | refine E.al (fun _ => ?_) | refine E.sbO ?_ | refine E.dq ?_ | refine E.ct ?_ | refine E.cf ?_ | refine E.cs (fun hh => ?_) (fun hh => ?_) | refine E.at_block_other rfl ?_)
        rename_i g21
        refine lq (fun y : Nat × V1 => y.1 ≤ rs.length) (fun y => [(104, .pl (.int .i64 (y.1 : Int))), (14, .pl y.2.1)]) (fun y => [ownF 63 y.2.1 (((headsS S ++ (O.take j).flatMap (nodeS S)) ++ (S.take i).flatMap (spanR (cd ⟨xl, xn⟩))) ++ (rows.take y.1).flatMap (rowQ (cd ⟨xl, xn⟩) sl))]) (fun y => rs.length - y.1) (0, ⟨vR, hR⟩) (Nat.zero_le _) (fun y hy => ?_) (hK := by exact Spl.ownF pk (by simp) (Spl.nil _))
        obtain ⟨m, ⟨vS, hS2⟩⟩ := y
        dsimp only at hy hS2 ⊢
        simp only [List.append_eq, List.nil_append, List.cons_append]
        have hf3 := fl_len (f := rowQ (cd ⟨xl, xn⟩) sl) (m := 1000) (fun r => rowQ_len _ _ r) (rows.take m)
        have htm : (rows.take m).length ≤ 14 := by rw [List.length_take]; omega
        have hls : (((headsS S ++ (O.take j).flatMap (nodeS S)) ++ (S.take i).flatMap (spanR (cd ⟨xl, xn⟩))) ++ (rows.take m).flatMap (rowQ (cd ⟨xl, xn⟩) sl)).length ≤ 600000 := by rw [List.length_append]; omega
        rcases Nat.lt_or_ge m rs.length with hmlt | hmge
        · obtain ⟨⟨xc, xs0, xf, xt⟩, hxx⟩ := get_lt hmlt
          obtain ⟨⟨rc, rj, rf, rt⟩, hxr⟩ := get_lt (xs := rows) (k := m) (by omega)
          obtain ⟨hq1, hq2, hq3⟩ := hMr.2 m _ _ hxx hxr
          dsimp only at hq1 hq2 hq3
          subst hq1 hq2 hq3
          have q6 := q4 _ (List.mem_of_getElem? hxr)
          dsimp only at q6
          have hst5 := flatMap_take (rowQ (cd ⟨xl, xn⟩) sl) hxr
          have hsl3 := spanL_len sl rf rt
          by_cases hcc : xc = cd ⟨xl, xn⟩
          · rw [show rowQ (cd ⟨xl, xn⟩) sl ⟨xc, rj, rf, rt⟩ = spanL sl rf rt from if_pos hcc] at hst5
            repeat' (first | refine E.st ?_ | refine E.dxa [0, 1, 2, 3, 4] ?_ | refine E.cl (h := fun _ w _ => c_i_code w hxn) (k := ?_) | refine E.cm (h := fun w _ => c_i_PageSpan (a := sl) (fr := rf) (to := rt) w) (k := fun zp => ?_) | refine E.apI (hs := RdIn.own memO) (hr := fun v9 h9 => ?_) | refine E.q3 ?_ | refine E.q ?_ | refine E.qs ?_ | refine E.q2 ?_ | refine E.q4 ?_ | refine E.tr ?_ | refine E.ap (fun _ _ => ?_) | refine E.b1 (fun _ _ => ?_) | refine E.b0 (fun _ _ => ?_) | refine E.bsn (fun _ _ => ?_) | refine E.mk (fun _ _ => ?_) | refine E.bxO (fun _ => ?_) | refine E.al (fun _ => ?_) | refine E.sbO ?_ | refine E.dq ?_ | refine E.ct ?_ | refine E.cf ?_ | refine E.cs (fun hh => ?_) (fun hh => ?_) | refine E.at_block_other rfl ?_)
            all_goals first
              | exact rd (α := Nat × V1) (m + 1, ⟨_, by assumption⟩) hmlt (hK := by exact KSub.ownF pk (by rw [hst5]; simp only [List.append_assoc]) ksv)
              | (exfalso; simp at hh; omega)
              | trace_state
          · rw [show rowQ (cd ⟨xl, xn⟩) sl ⟨xc, rj, rf, rt⟩ = [] from if_neg hcc] at hst5
            repeat' (first | refine E.st ?_ | refine E.dxa [0, 1, 2, 3, 4] ?_ | refine E.cl (h := fun _ w _ => c_i_code w hxn) (k := ?_)  | refine E.q3 ?_ | refine E.q ?_ | refine E.qs ?_ | refine E.q2 ?_ | refine E.q4 ?_ | refine E.tr ?_ | refine E.ap (fun _ _ => ?_) | refine E.b1 (fun _ _ => ?_) | refine E.b0 (fun _ _ => ?_) | refine E.bsn (fun _ _ => ?_) | refine E.mk (fun _ _ => ?_) | refine E.bxO (fun _ => ?_) | refine E.al (fun _ => ?_) | refine E.sbO ?_ | refine E.dq ?_ | refine E.ct ?_ | refine E.cf ?_ | refine E.cs (fun hh => ?_) (fun hh => ?_) | refine E.at_block_other rfl ?_)
            all_goals first
              | exact rd (α := Nat × V1) (m + 1, ⟨vS, hS2⟩) hmlt (hK := by exact KSub.ownF pk (by rw [hst5]; simp only [List.append_nil]) ksv)
              | (exfalso; simp at hh; omega)
              | trace_state
        · have hme : (rows.take m).flatMap (rowQ (cd ⟨xl, xn⟩) sl) = rows.flatMap (rowQ (cd ⟨xl, xn⟩) sl) := by rw [List.take_of_length_le (by omega)]
          rw [hme]
          repeat' (first | refine E.st ?_ | refine E.q3 ?_ | refine E.q ?_ | refine E.qs ?_ | refine E.q2 ?_ | refine E.q4 ?_ | refine E.tr ?_ | refine E.ap (fun _ _ => ?_) | refine E.b1 (fun _ _ => ?_) | refine E.b0 (fun _ _ => ?_) | refine E.bsn (fun _ _ => ?_) | refine E.mk (fun _ _ => ?_) | refine E.bxO (fun _ => ?_) | refine E.al (fun _ => ?_) | refine E.sbO ?_ | refine E.dq ?_ | refine E.ct ?_ | refine E.cf ?_ | refine E.cs (fun hh => ?_) (fun hh => ?_) | refine E.at_block_other rfl ?_)
          exact rd (α := Nat × V1) (i + 1, ⟨vS, hS2⟩) hilt (hK := by exact KSub.ownF pk (by rw [hst4]; simp only [List.append_assoc]) ksv)
      · rw [List.take_of_length_le hige]
        repeat' (first | refine E.st ?_ | refine E.q3 ?_ | refine E.q ?_ | refine E.qs ?_ | refine E.q2 ?_ | refine E.q4 ?_ | refine E.tr ?_ | refine E.ap (fun _ _ => ?_) | refine E.b1 (fun _ _ => ?_) | refine E.b0 (fun _ _ => ?_) | refine E.bsn (fun _ _ => ?_) | refine E.mk (fun _ _ => ?_) | refine E.bxO (fun _ => ?_) | refine E.al (fun _ => ?_) | refine E.sbO ?_ | refine E.dq ?_ | refine E.ct ?_ | refine E.cf ?_ | refine E.cs (fun hh => ?_) (fun hh => ?_) | refine E.at_block_other rfl ?_)
        exact rd (α := Nat × V1) (j + 1, ⟨vR, hR⟩) hjlt (hK := by exact KSub.ownF pk (by rw [hst3]; simp only [List.append_assoc]) ksv)
    · rw [List.take_of_length_le hjge]
      repeat' (first | refine E.st ?_ | refine E.q3 ?_ | refine E.q ?_ | refine E.qs ?_ | refine E.q2 ?_ | refine E.q4 ?_ | refine E.tr ?_ | refine E.ap (fun _ _ => ?_) | refine E.b1 (fun _ _ => ?_) | refine E.b0 (fun _ _ => ?_) | refine E.bsn (fun _ _ => ?_) | refine E.mk (fun _ _ => ?_) | refine E.bxO (fun _ => ?_) | refine E.al (fun _ => ?_) | refine E.sbO ?_ | refine E.dq ?_ | refine E.ct ?_ | refine E.cf ?_ | refine E.cs (fun hh => ?_) (fun hh => ?_) | refine E.at_block_other rfl ?_)
      all_goals first
        | exact rn (α := V1 × V1 × V1) (⟨u1, hu1⟩, ⟨u2, hu2⟩, ⟨vQ, hQ⟩) (hK := ksv)
        | trace_state
end E
end Go.Proofs.YtpiiapoafmnhhaaGreat
