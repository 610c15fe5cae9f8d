/- spec.QueryPages: the pages that are read. -/
import Derived.Test.YtpiiapoafmnhhaaGreatMo
import Derived.Test.YtpiiapoafmnhhaaGreatM13
import Derived.Test.YtpiiapoafmnhhaaGreatMc
import Derived.Test.YtpiiapoafmnhhaaGreatUg
import Derived.Test.YtpiiapoafmnhhaaGreatM07
import Derived.Test.YtpiiapoafmnhhaaGreatM09
namespace Go.Proofs.YtpiiapoafmnhhaaGreat
namespace E
open Go Go.RowKit
set_option linter.unusedSimpArgs false
set_option linter.unusedVariables false
set_option maxHeartbeats 1000000
set_option maxRecDepth 10000
attribute [local irreducible] HC HL HQ HX HO At Y YV Opd Opds KnX Sl Ld Src GV RV Calls Code.wp eptr adr RdF ownF OneX HG LdC
/-- The pages that are read of bytes. -/
def pagesQ (st : List Sg) (c : Int) (q : Qu) : List Pg := match readL st, readL (viewS st c) with
  | some _, some g => if lok c = true ∧ qok q = true then pagesS (viewS st c) (orderL g q) else []
  | _, _ => []
theorem view_mem {xs : List Sg} {c : Int} {s : Sg} (h : s ∈ viewS xs c) : s ∈ xs := (List.mem_filter.1 h).1
theorem c_s_QueryPages {v : Value} {xs : List Sg} {c k l n : Int} (w : World) (hs : ∀ s ∈ xs, s.b.size ≤ 4000000) (hl : xs.length ≤ 2000000) (hr : RdF w v xs := by exact rdA) :
    Calls Tryz.prog 15 #[v, .int .i64 c, .agg #[.int .i64 k, .int .i64 l, .int .i64 n]] w (Ret (fun z : V1 => z.1) (fun z => [ownF 63 z.1 (pagesQ xs c ⟨k, ⟨l, n⟩⟩)]) w) := by
  have o1 := hr.one
  have hv : ∀ s ∈ viewS xs c, s.b.size ≤ 4000000 := fun s h => hs s (view_mem h)
  have hR1 : ∀ w, RdF w v xs → Calls Tryz.prog 60 #[v] w (Ret (fun z : V1 × V1 => .tuple #[.agg #[z.1.1, z.2.1], .bool (readL xs).isSome]) (fun z => [ownF 32 z.1.1 (grO (readL xs)).ns, ownF 84 z.2.1 (grO (readL xs)).es]) w) := fun w h => c_s_StoreRead w hs h
  have hR2 : ∀ u w, RdF w u (viewS xs c) → Calls Tryz.prog 60 #[u] w (Ret (fun z : V1 × V1 => .tuple #[.agg #[z.1.1, z.2.1], .bool (readL (viewS xs c)).isSome]) (fun z => [ownF 32 z.1.1 (grO (readL (viewS xs c))).ns, ownF 84 z.2.1 (grO (readL (viewS xs c))).es]) w) := fun u w h => c_s_StoreRead w hv h
  by_cases hgood : ∃ g0 g, readL xs = some g0 ∧ readL (viewS xs c) = some g ∧ lok c = true ∧ qok ⟨k, ⟨l, n⟩⟩ = true
  · obtain ⟨g0, g, e1, e2, hc, hq⟩ := hgood
    have hp : pagesQ xs c ⟨k, ⟨l, n⟩⟩ = pagesS (viewS xs c) (orderL g ⟨k, ⟨l, n⟩⟩) := by
      unfold pagesQ; rw [e1, e2]; exact if_pos ⟨hc, hq⟩
    obtain ⟨hg, hst, _⟩ := readL_some e2
    have hsg : ∀ s ∈ viewS xs c, SgOk s := fun s h => SgOk.of hg (by rw [hst]; exact h)
    have hsl : (viewS xs c).length ≤ 8 := by rw [← hst]; exact storeL_len g
    rw [hp]
    rw [e1] at hR1
    rw [e2] at hR2
    have c_LabelT : ∀ w, Calls Tryz.prog 61 #[.int .i64 c] w (Ret (fun _ : Unit => .bool true) (fun _ => []) w) := fun w => by rw [← hc]; exact c_s_LabelOk w
    refine enter (args := _) Tryz.func15 rfl Tryz.ntmps15 (by simp) ?_
    repeat' (first | refine E.st ?_ | refine E.cm (h := fun w hw => c_s_StoreView w (hr.now hw) hl) (k := fun z0 => ?_) | refine E.cm (h := fun w hw => hR1 w (hr.now hw)) (k := fun z1 => E.wy z1.1.2 (fun a1 => E.wy z1.2.2 (fun a2 => ?_))) | refine E.cm (h := fun w hw => hR2 _ w (RdF.ofK hw)) (k := fun z2 => E.wy z2.1.2 (fun b1 => E.wy z2.2.2 (fun b2 => ?_))) | refine E.cl (h := fun _ w _ => c_LabelT w) (k := ?_) | refine E.cl (h := fun _ w _ => c_s_QueryOk_t w hq) (k := ?_) | refine E.cm (h := fun w hw => c_l6Pages (g := g) (xs := viewS xs c) w hg hsg hsl) (k := fun z3 => E.wy z3.2 (fun d1 => ?_)) | refine E.q3 ?_ | refine E.q ?_ | refine E.qs ?_ | refine E.q2 ?_ | refine E.q4 ?_ | refine E.tr ?_ | refine E.ap (fun _ _ => ?_) | refine E.b1 (fun _ _ => ?_) | refine E.b0 (fun _ _ => ?_) | refine E.bsn (fun _ _ => ?_) | refine E.mk (fun _ _ => ?_) | refine E.bxO (fun _ => ?_) | refine E.al (fun _ => ?_) | refine E.sbO ?_ | refine E.dq ?_ | refine E.ct ?_ | refine E.cf ?_ | refine E.cs (fun hh => ?_) (fun hh => ?_) | refine E.at_block_other rfl ?_)
    all_goals first
      | exact r1 (α := V1) ⟨_, by assumption⟩ (hK := ksv)
      | (exfalso; simp_all; done)
      | trace_state
  · have hp : pagesQ xs c ⟨k, ⟨l, n⟩⟩ = [] := by
      unfold pagesQ
      split
      · rename_i g0 g e1 e2
        exact if_neg (fun h => hgood ⟨g0, g, e1, e2, h.1, h.2⟩)
      · rfl
    rw [hp]
    refine enter (args := _) Tryz.func15 rfl Tryz.ntmps15 (by simp) ?_
    repeat' (first | refine E.st ?_ | refine E.cm (h := fun w hw => c_s_StoreView w (hr.now hw) hl) (k := fun z0 => ?_) | refine E.cm (h := fun w hw => hR1 w (hr.now hw)) (k := fun z1 => E.wy z1.1.2 (fun a1 => E.wy z1.2.2 (fun a2 => ?_))) | refine E.cm (h := fun w hw => hR2 _ w (RdF.ofK hw)) (k := fun z2 => E.wy z2.1.2 (fun b1 => E.wy z2.2.2 (fun b2 => ?_))) | refine E.cl (h := fun _ w _ => c_s_LabelOk w) (k := ?_) | refine E.cl (h := fun _ w _ => c_s_QueryOk w) (k := ?_) | refine E.b0 (α := Pg) (fun v0 h0 => ?_) | refine E.q3 ?_ | refine E.q ?_ | refine E.qs ?_ | refine E.q2 ?_ | refine E.q4 ?_ | refine E.tr ?_ | refine E.ap (fun _ _ => ?_) | refine E.b1 (fun _ _ => ?_) | refine E.b0 (fun _ _ => ?_) | refine E.bsn (fun _ _ => ?_) | refine E.mk (fun _ _ => ?_) | refine E.bxO (fun _ => ?_) | refine E.al (fun _ => ?_) | refine E.sbO ?_ | refine E.dq ?_ | refine E.ct ?_ | refine E.cf ?_ | refine E.cs (fun hh => ?_) (fun hh => ?_) | refine E.at_block_other rfl ?_)
    all_goals first
      | exact r1 (α := V1) ⟨_, by assumption⟩ (hK := ksv)
      | (exfalso; obtain ⟨⟨⟨i1, i2⟩, i3⟩, i4⟩ := hh; obtain ⟨g0, e1⟩ := Option.isSome_iff_exists.1 i1; obtain ⟨g, e2⟩ := Option.isSome_iff_exists.1 i2; exact hgood ⟨g0, g, e1, e2, i3, i4⟩)
      | trace_state
end E
end Go.Proofs.YtpiiapoafmnhhaaGreat
/- Pages are used; the pages of a node, as the reference says them. -/
namespace Go.Proofs.YtpiiapoafmnhhaaGreat
namespace E
open Go Go.RowKit
set_option linter.unusedSimpArgs false
set_option linter.unusedVariables false
set_option maxHeartbeats 1000000
set_option maxRecDepth 10000
attribute [local irreducible] HC HL HQ HX HO At Y YV Opd Opds KnX Sl Ld Src GV RV Calls Code.wp eptr adr RdF ownF OneX HG LdC
theorem rdBox {α : Type} [Flat α] {w0 : World} {L M : List Ck} {b b2 : Ck} {v : Value} {xs : List α} (h : RdIn w0 L v xs) : RdIn w0 (b :: b2 :: (L ++ M)) v xs := RdIn.sub h (KSub.drop1 (KSub.drop1 (KSub.ofPermG L _ M (List.Perm.refl _))))
/-- A pool whose pages are all unlike. -/
def PlN (p : Pl) : Prop := (0 ≤ p.z ∧ p.z ≤ 1048576 ∧ p.l.length ≤ 1048576) ∧ True ∧ p.l.Nodup
theorem PlN.use {p : Pl} {x : Pg} (h : PlN p) : PlN (useP p x) := by
  obtain ⟨⟨h1, h2, h3⟩, _, h4⟩ := h
  refine ⟨⟨h1, h2, ?_⟩, trivial, List.Nodup.sublist (List.take_sublist _ _) (nodup_use h4)⟩
  have := List.length_take_le p.z.toNat (x :: p.l.filter (fun y => !decide (y = x)))
  show (List.take _ _).length ≤ _
  omega
theorem allF_N : ∀ (list : List Pg) (s : Pl × Int), PlN s.1 → PlN (list.foldl allS s).1
  | [], _, h => h
  | x :: list, s, h => by rw [List.foldl_cons]; exact allF_N list _ h.use
theorem PlN.all {p : Pl} {list : List Pg} (h : PlN p) : PlN (allP p list).1 := allF_N list _ h
theorem PlOk.N {p : Pl} (h : PlOk p) : PlN p := by
  obtain ⟨h1, _, h3⟩ := h
  exact ⟨by omega, trivial, h3⟩
theorem c_l5AllN {z : Int} {A : Option Addr} {n c : Nat} {u : Value} {xs ys : List Pg} (w : World) (hok : PlN ⟨z, xs⟩) (hyl : ys.length ≤ 1000000) (hr : RdF w (.slice A n c) xs := by exact rdA) (hq : RdF w u ys := by exact rdA) :
    Calls Tryz.prog 106 #[.agg #[.int .i64 z, .slice A n c], u] w (Ret (fun s : V1 => .tuple #[.agg #[.int .i64 z, s.1], .int .i64 (allP ⟨z, xs⟩ ys).2]) (fun s => [ownF 63 s.1 (allP ⟨z, xs⟩ ys).1.l]) w) := by
  have o2 := hq.one
  have hz := hok.1
  dsimp only at hz
  refine enter (args := _) Tryz.func106 rfl Tryz.ntmps106 (by simp) ?_
  repeat' (first | refine E.st ?_ | refine E.bx (fun g2 => ?_) | refine E.al (fun g4 => ?_) | refine E.q3 ?_ | refine E.q ?_ | refine E.qs ?_ | refine E.q2 ?_ | refine E.q4 ?_ | refine E.tr ?_ | refine E.ap (fun _ _ => ?_) | refine E.b1 (fun _ _ => ?_) | refine E.b0 (fun _ _ => ?_) | refine E.bsn (fun _ _ => ?_) | refine E.mk (fun _ _ => ?_) | refine E.bxO (fun _ => ?_) | refine E.al (fun _ => ?_) | refine E.sbO ?_ | refine E.dq ?_ | refine E.ct ?_ | refine E.cf ?_ | refine E.cs (fun hh => ?_) (fun hh => ?_) | refine E.at_block_other rfl ?_)
  have hstart : RdIn w ([] : List Ck) (.slice A n c) xs := RdIn.rd hr
  refine lq (fun p : Nat × Sv × { p : Nat × List Ck // True } => p.1 ≤ ys.length ∧ RdIn w p.2.2.1.2 (.slice p.2.1.a p.2.1.n p.2.1.c) (allP ⟨z, xs⟩ (ys.take p.1)).1.l) (fun p => [(7, .pl (.int .i64 (p.1 : Int))), (6, .pl (.int .i64 (allP ⟨z, xs⟩ (ys.take p.1)).2))]) (fun p => .box g2 68 [.int .i64 z, .slice p.2.1.a p.2.1.n p.2.1.c] :: .box g4 68 [.int .i64 0, .slice none 0 0] :: p.2.2.1.2) (fun p => ys.length - p.1) (0, ⟨A, n, c⟩, ⟨(0, []), trivial⟩) ⟨Nat.zero_le _, hstart⟩ (fun p hp => ?_)
  obtain ⟨k, ⟨A1, n1, c1⟩, ⟨⟨dm, L⟩, _⟩⟩ := p
  obtain ⟨hk, hL⟩ := hp
  dsimp only at hk hL ⊢
  have hpk := PlN.all (p := ⟨z, xs⟩) (list := ys.take k) hok
  have hzk := allP_z ⟨z, xs⟩ (ys.take k)
  have hnk := allP_n ⟨z, xs⟩ (ys.take k)
  have htk : (ys.take k).length ≤ k := List.length_take_le _ _
  dsimp only at hzk
  rcases Nat.lt_or_ge k ys.length with hlt | hge
  · obtain ⟨⟨yl, ya⟩, hy⟩ := get_lt hlt
    have hstep := allP_step (p := ⟨z, xs⟩) hy
    generalize hS : allP ⟨z, xs⟩ (ys.take k) = S at *
    obtain ⟨⟨sz, sl⟩, sn⟩ := S
    dsimp only at hzk hnk hL hpk hstep ⊢
    subst hzk
    have hlen := hpk.1
    dsimp only at hlen
    have hnd : sl.Nodup := hpk.2.2
    by_cases hm : (⟨yl, ya⟩ : Pg) ∈ sl
    · simp only [allS, if_pos hm] at hstep
      have hT : decide ((⟨yl, ya⟩ : Pg) ∈ sl) = true := decide_eq_true hm
      have hU : ∀ w', RdF w' (.slice A1 n1 c1) sl → Calls Tryz.prog 156 #[.agg #[.int .i64 sz, .slice A1 n1 c1], .agg #[.int .i64 yl, .int .i64 ya]] w' (Ret (fun s : Sv => .tuple #[.agg #[.int .i64 sz, .slice s.a s.n s.c], .bool true]) (fun s => [ownF 63 (.slice s.a s.n s.c) (useP ⟨sz, sl⟩ ⟨yl, ya⟩).l]) w') := fun w' h' => by
        have h0 := c_l5Use (z := sz) (l := yl) (a := ya) w' hnd (by omega) h' (by omega)
        rw [hT] at h0
        exact h0
      repeat' (first | refine E.st ?_ | refine E.dxs 9 (i := 6) [0, 1, 2, 3, 4, 5, 6, 7, 8, 9, 10] ?_ | refine E.qp ?_ | refine E.qp ?_ (hK := Or.inr ks_one) | refine E.cm (h := fun w hw => hU w (rdBox hL _ hw)) (k := fun z => ?_) (hB := fun _ => kb_one) | refine E.q3 ?_ | refine E.q ?_ | refine E.qs ?_ | refine E.q2 ?_ | refine E.q4 ?_ | refine E.tr ?_ | refine E.ap (fun _ _ => ?_) | refine E.b1 (fun _ _ => ?_) | refine E.b0 (fun _ _ => ?_) | refine E.bsn (fun _ _ => ?_) | refine E.mk (fun _ _ => ?_) | refine E.bxO (fun _ => ?_) | refine E.al (fun _ => ?_) | refine E.sbO ?_ | refine E.dq ?_ | refine E.ct ?_ | refine E.cf ?_ | refine E.cs (fun hh => ?_) (fun hh => ?_) | refine E.at_block_other rfl ?_)
      all_goals first
        | (exfalso; simp_all; done)
        | (refine rd (α := Nat × Sv × { p : Nat × List Ck // True }) (k + 1, z, ⟨(0, [ownF 63 (.slice z.a z.n z.c) (useP ⟨sz, sl⟩ ⟨yl, ya⟩).l]), trivial⟩) ⟨hlt, by dsimp only; rw [hstep]; exact RdIn.own List.mem_cons_self⟩ (hF := by dsimp only; rw [hstep]; exact fs))
        | trace_state
    · simp only [allS, if_neg hm] at hstep
      have hT : decide ((⟨yl, ya⟩ : Pg) ∈ sl) = false := decide_eq_false hm
      have hU : ∀ w', RdF w' (.slice A1 n1 c1) sl → Calls Tryz.prog 156 #[.agg #[.int .i64 sz, .slice A1 n1 c1], .agg #[.int .i64 yl, .int .i64 ya]] w' (Ret (fun s : Sv => .tuple #[.agg #[.int .i64 sz, .slice s.a s.n s.c], .bool false]) (fun s => [ownF 63 (.slice s.a s.n s.c) (useP ⟨sz, sl⟩ ⟨yl, ya⟩).l]) w') := fun w' h' => by
        have h0 := c_l5Use (z := sz) (l := yl) (a := ya) w' hnd (by omega) h' (by omega)
        rw [hT] at h0
        exact h0
      repeat' (first | refine E.st ?_ | refine E.dxs 9 (i := 6) [0, 1, 2, 3, 4, 5, 6, 7, 8, 9, 10] ?_ | refine E.qp ?_ | refine E.qp ?_ (hK := Or.inr ks_one) | refine E.cm (h := fun w hw => hU w (rdBox hL _ hw)) (k := fun z => ?_) (hB := fun _ => kb_one) | refine E.q3 ?_ | refine E.q ?_ | refine E.qs ?_ | refine E.q2 ?_ | refine E.q4 ?_ | refine E.tr ?_ | refine E.ap (fun _ _ => ?_) | refine E.b1 (fun _ _ => ?_) | refine E.b0 (fun _ _ => ?_) | refine E.bsn (fun _ _ => ?_) | refine E.mk (fun _ _ => ?_) | refine E.bxO (fun _ => ?_) | refine E.al (fun _ => ?_) | refine E.sbO ?_ | refine E.dq ?_ | refine E.ct ?_ | refine E.cf ?_ | refine E.cs (fun hh => ?_) (fun hh => ?_) | refine E.at_block_other rfl ?_)
      all_goals first
        | (exfalso; simp_all; done)
        | (refine rd (α := Nat × Sv × { p : Nat × List Ck // True }) (k + 1, z, ⟨(0, [ownF 63 (.slice z.a z.n z.c) (useP ⟨sz, sl⟩ ⟨yl, ya⟩).l]), trivial⟩) ⟨hlt, by dsimp only; rw [hstep]; exact RdIn.own List.mem_cons_self⟩ (hF := by dsimp only; rw [hstep]; exact fs))
        | trace_state
  · rw [List.take_of_length_le hge] at *
    have hlen := hpk.1
    rw [hzk] at hlen
    repeat' (first | refine E.st ?_ | refine E.dxs 8 (i := 9) [0, 1, 3, 4, 7, 2, 5, 6, 8, 9] ?_ | refine E.qp ?_ | refine E.qp ?_ (hK := Or.inr ks_one) | refine E.b0 (α := Pg) (fun v0 h0 => ?_) (hB := fun _ => kb_one) | refine E.q ?_ (hQ := KQ.x (by decide +kernel) ks_one) | refine E.q4 ?_ (hQ := KQ.x (by decide +kernel) ks_one) | refine E.apI (hs := rdBox hL) (hr := fun v9 h9 => ?_) (hB := fun _ => kb_one) | refine E.q3 ?_ | refine E.q ?_ | refine E.qs ?_ | refine E.q2 ?_ | refine E.q4 ?_ | refine E.tr ?_ | refine E.ap (fun _ _ => ?_) | refine E.b1 (fun _ _ => ?_) | refine E.b0 (fun _ _ => ?_) | refine E.bsn (fun _ _ => ?_) | refine E.mk (fun _ _ => ?_) | refine E.bxO (fun _ => ?_) | refine E.al (fun _ => ?_) | refine E.sbO ?_ | refine E.dq ?_ | refine E.ct ?_ | refine E.cf ?_ | refine E.cs (fun hh => ?_) (fun hh => ?_) | refine E.at_block_other rfl ?_)
    exact rn (α := V1) ⟨v9, h9⟩ (hK := KSub.ownF pk (List.nil_append _) (KSub.nil _))
theorem c_l5All {z : Int} {A : Option Addr} {n c : Nat} {u : Value} {xs ys : List Pg} (w : World) (hok : PlOk ⟨z, xs⟩) (_hys : ∀ y ∈ ys, pgok y = true) (hyl : ys.length ≤ 1000000) (hr : RdF w (.slice A n c) xs := by exact rdA) (hq : RdF w u ys := by exact rdA) :
    Calls Tryz.prog 106 #[.agg #[.int .i64 z, .slice A n c], u] w (Ret (fun s : V1 => .tuple #[.agg #[.int .i64 z, s.1], .int .i64 (allP ⟨z, xs⟩ ys).2]) (fun s => [ownF 63 s.1 (allP ⟨z, xs⟩ ys).1.l]) w) := c_l5AllN w hok.N hyl hr hq
end E
end Go.Proofs.YtpiiapoafmnhhaaGreat
/- spec.QueryRun: what bytes answer, with what is at hand. -/
namespace Go.Proofs.YtpiiapoafmnhhaaGreat
namespace E
open Go Go.RowKit
set_option linter.unusedSimpArgs false
set_option linter.unusedVariables false
set_option maxHeartbeats 1000000
set_option maxRecDepth 10000
attribute [local irreducible] HC HL HQ HX HO At Y YV Opd Opds KnX Sl Ld Src GV RV Calls Code.wp eptr adr RdF ownF OneX HG LdC
theorem read_view {xs : List Sg} {g0 : Gr} {c : Int} (h : readL xs = some g0) : readL (viewS xs c) = some (view g0 c) := by
  obtain ⟨hg, hst, _⟩ := readL_some h
  rw [← hst, ← store_view]
  exact readL_store hg.view
theorem pages_view {xs : List Sg} {g0 : Gr} {c : Int} {q : Qu} (h : readL xs = some g0) : pagesS (viewS xs c) (orderL (view g0 c) q) = pagesL (view g0 c) q := by
  obtain ⟨hg, hst, _⟩ := readL_some h
  unfold pagesL
  rw [store_view, hst]
theorem pagesL_len {g : Gr} (h : g.ok) (q : Qu) : (pagesL g q).length ≤ 1000000 := by
  unfold pagesL pagesS
  have h1 := headS_len (storeL g)
  have h2 := storeL_len g
  have h3 := fl_len (f := nodeS (storeL g)) (m := 8000) (nodeS_len _ h2) (orderL g q)
  have h4 : (orderL g q).length ≤ 41 := by
    unfold orderL
    split
    · simp
    · split
      · by_cases hm : q.n ∈ g.ns
        · rw [wave_eq h hm, ndL_len]
          have := (BI.bfs (AOk.of h) (plc_ok hm).2.2).mlen
          have := h.1.len
          omega
        · have : waveL g q.n = [] := if_neg hm
          rw [this]; simp
      · have := h.1.len; omega
  rw [List.length_append]
  omega
theorem c_s_QueryRun_y {v : Value} {xs : List Sg} {g0 : Gr} {c k l n z : Int} {A : Option Addr} {m cp : Nat} {ps : List Pg} (w : World) (hs : ∀ s ∈ xs, s.b.size ≤ 4000000) (hl : xs.length ≤ 2000000) (e1 : readL xs = some g0) (hc : lok c = true) (hq : qok ⟨k, ⟨l, n⟩⟩ = true) (hok : PlOk ⟨z, ps⟩) (hr : RdF w v xs := by exact rdA) (hp : RdF w (.slice A m cp) ps := by exact rdA) :
    Calls Tryz.prog 43 #[v, .int .i64 c, .agg #[.int .i64 z, .slice A m cp], .agg #[.int .i64 k, .int .i64 l, .int .i64 n]] w (Ret (fun y : V1 × V1 => .tuple #[y.1.1, .agg #[.int .i64 z, y.2.1], .int .i64 (allP ⟨z, ps⟩ (pagesL (view g0 c) ⟨k, ⟨l, n⟩⟩)).2]) (fun y => [ownF 3 y.1.1 (askL (view g0 c) ⟨k, ⟨l, n⟩⟩), ownF 63 y.2.1 (allP ⟨z, ps⟩ (pagesL (view g0 c) ⟨k, ⟨l, n⟩⟩)).1.l]) w) := by
  have o1 := hr.one
  have hg := (readL_some e1).1
  have hgv : (view g0 c).ok := hg.view
  have e2 := read_view (c := c) e1
  have hst := (readL_some e2).2.1
  have hv : ∀ s ∈ viewS xs c, s.b.size ≤ 4000000 := fun s h => hs s (view_mem h)
  have hsg : ∀ s ∈ viewS xs c, SgOk s := fun s h => SgOk.of hgv (by rw [hst]; exact h)
  have hsl : (viewS xs c).length ≤ 8 := by rw [← hst]; exact storeL_len _
  have hpl := pagesL_len hgv ⟨k, ⟨l, n⟩⟩
  have hpo : ∀ y ∈ pagesL (view g0 c) ⟨k, ⟨l, n⟩⟩, pgok y = true := fun y h => (pages_in hgv h).1
  have hR1 : ∀ w, RdF w v xs → Calls Tryz.prog 60 #[v] w (Ret (fun z : V1 × V1 => .tuple #[.agg #[z.1.1, z.2.1], .bool true]) (fun z => [ownF 32 z.1.1 g0.ns, ownF 84 z.2.1 g0.es]) w) := fun w h => by
    have := c_s_StoreRead w hs h
    rw [e1] at this
    exact this
  have hR2 : ∀ u w, RdF w u (viewS xs c) → Calls Tryz.prog 60 #[u] w (Ret (fun z : V1 × V1 => .tuple #[.agg #[z.1.1, z.2.1], .bool true]) (fun z => [ownF 32 z.1.1 (view g0 c).ns, ownF 84 z.2.1 (view g0 c).es]) w) := fun u w h => by
    have := c_s_StoreRead w hv h
    rw [e2] at this
    exact this
  have hP : ∀ s u u' w, RdF w s (viewS xs c) → RdF w u (view g0 c).ns → RdF w u' (view g0 c).es → Calls Tryz.prog 62 #[s, .agg #[u, u'], .agg #[.int .i64 k, .int .i64 l, .int .i64 n]] w (Ret (fun z : V1 => z.1) (fun z => [ownF 63 z.1 (pagesL (view g0 c) ⟨k, ⟨l, n⟩⟩)]) w) := fun s u u' w h1 h2 h3 => by
    have := c_l6Pages (g := view g0 c) (xs := viewS xs c) (k := k) (l := l) (n := n) w hgv hsg hsl h1 h2 h3
    rw [pages_view e1] at this
    exact this
  have c_LabelT : ∀ w, Calls Tryz.prog 61 #[.int .i64 c] w (Ret (fun _ : Unit => .bool true) (fun _ => []) w) := fun w => by rw [← hc]; exact c_s_LabelOk w
  have hPl : ∀ w, RdF w (.slice A m cp) ps → Calls Tryz.prog 56 #[.agg #[.int .i64 z, .slice A m cp]] w (Ret (fun _ : Unit => .bool true) (fun _ => []) w) := fun w h => by
    have := c_s_PoolOk (z := z) w h
    rwa [decide_eq_true hok] at this
  generalize pagesL (view g0 c) ⟨k, ⟨l, n⟩⟩ = pg at *
  refine enter (args := _) Tryz.func43 rfl Tryz.ntmps43 (by simp) ?_
  repeat' (first | refine E.st ?_ | refine E.al (fun g9 => ?_) | refine E.q3 ?_ | refine E.q ?_ | refine E.qs ?_ | refine E.q2 ?_ | refine E.q4 ?_ | refine E.tr ?_ | refine E.ap (fun _ _ => ?_) | refine E.b1 (fun _ _ => ?_) | refine E.b0 (fun _ _ => ?_) | refine E.bsn (fun _ _ => ?_) | refine E.mk (fun _ _ => ?_) | refine E.bxO (fun _ => ?_) | refine E.al (fun _ => ?_) | refine E.sbO ?_ | refine E.dq ?_ | refine E.ct ?_ | refine E.cf ?_ | refine E.cs (fun hh => ?_) (fun hh => ?_) | refine E.at_block_other rfl ?_)
  repeat' (first | refine E.st ?_ | refine E.al (fun gx => ?_) | refine E.dxa [0, 1, 2, 4, 5, 3, 6, 7, 8, 9, 10, 11, 12, 13] ?_ | refine E.br2 (i := 3) (j := 11) ?_ ?_ | refine E.br2 (i := 6) (j := 11) ?_ ?_ | refine E.br2 (i := 7) (j := 11) ?_ ?_ | refine E.dxq g9 (i := 6) [0, 1, 3, 4, 2, 5, 6, 7] ?_ | refine E.cm (h := fun w hw => c_s_StoreView w (hr.now hw) hl) (k := fun z0 => ?_) | refine E.cm (h := fun w hw => hR1 w (hr.now hw)) (k := fun z1 => E.wy z1.1.2 (fun a1 => E.wy z1.2.2 (fun a2 => ?_))) | refine E.cm (h := fun w hw => hR2 _ w (RdF.ofK hw)) (k := fun z2 => E.wy z2.1.2 (fun b1 => E.wy z2.2.2 (fun b2 => ?_))) | refine E.cl (h := fun _ w _ => c_LabelT w) (k := ?_) | refine E.cl (h := fun _ w _ => c_s_QueryOk_t w hq) (k := ?_) | refine E.cl (h := fun _ w hw => hPl w (hp.now hw)) (k := ?_) | refine E.cm (h := fun w hw => hP _ _ _ w (RdF.ofK hw) (RdF.ofK hw) (RdF.ofK hw)) (k := fun z3 => E.wy z3.2 (fun d3 => ?_)) | refine E.cm (h := fun w hw => c_l5All (A := A) (n := m) (c := cp) (z := z) (xs := ps) (ys := pg) w hok hpo hpl (hp.now hw) (RdF.ofK hw)) (k := fun z5 => E.wy z5.2 (fun d5 => ?_)) | refine E.cm (h := fun w hw => c_s_QueryAsk (g := view g0 c) w) (k := fun z6 => E.wy z6.2 (fun d6 => ?_)) | refine E.q3 ?_ | refine E.q ?_ | refine E.qs ?_ | refine E.q2 ?_ | refine E.q4 ?_ | refine E.tr ?_ | refine E.ap (fun _ _ => ?_) | refine E.b1 (fun _ _ => ?_) | refine E.b0 (fun _ _ => ?_) | refine E.bsn (fun _ _ => ?_) | refine E.mk (fun _ _ => ?_) | refine E.bxO (fun _ => ?_) | refine E.al (fun _ => ?_) | refine E.sbO ?_ | refine E.dq ?_ | refine E.ct ?_ | refine E.cf ?_ | refine E.cs (fun hh => ?_) (fun hh => ?_) | refine E.at_block_other rfl ?_)
  all_goals first
    | exact rn (α := V1 × V1) (z6, z5) (hK := ksv)
    | (exfalso; simp_all; done)
    | trace_state
theorem c_s_QueryRun_n {v : Value} {xs : List Sg} {c k l n z : Int} {A : Option Addr} {m cp : Nat} {ps : List Pg} (w : World) (hs : ∀ s ∈ xs, s.b.size ≤ 4000000) (hl : xs.length ≤ 2000000) (hbad : ¬ ∃ g0, readL xs = some g0 ∧ lok c = true ∧ qok ⟨k, ⟨l, n⟩⟩ = true ∧ PlOk ⟨z, ps⟩) (hr : RdF w v xs := by exact rdA) (hp : RdF w (.slice A m cp) ps := by exact rdA) :
    Calls Tryz.prog 43 #[v, .int .i64 c, .agg #[.int .i64 z, .slice A m cp], .agg #[.int .i64 k, .int .i64 l, .int .i64 n]] w (Ret (fun y : V1 => .tuple #[y.1, .agg #[.int .i64 0, .slice none 0 0], .int .i64 0]) (fun y => [ownF 3 y.1 ([] : List Int)]) w) := by
  have o1 := hr.one
  have hv : ∀ s ∈ viewS xs c, s.b.size ≤ 4000000 := fun s h => hs s (view_mem h)
  have hR1 : ∀ w, RdF w v xs → Calls Tryz.prog 60 #[v] w (Ret (fun z : V1 × V1 => .tuple #[.agg #[z.1.1, z.2.1], .bool (readL xs).isSome]) (fun z => [ownF 32 z.1.1 (grO (readL xs)).ns, ownF 84 z.2.1 (grO (readL xs)).es]) w) := fun w h => c_s_StoreRead w hs h
  have hR2 : ∀ u w, RdF w u (viewS xs c) → Calls Tryz.prog 60 #[u] w (Ret (fun z : V1 × V1 => .tuple #[.agg #[z.1.1, z.2.1], .bool (readL (viewS xs c)).isSome]) (fun z => [ownF 32 z.1.1 (grO (readL (viewS xs c))).ns, ownF 84 z.2.1 (grO (readL (viewS xs c))).es]) w) := fun u w h => c_s_StoreRead w hv h
  refine enter (args := _) Tryz.func43 rfl Tryz.ntmps43 (by simp) ?_
  repeat' (first | refine E.st ?_ | refine E.al (fun g9 => ?_) | refine E.cm (h := fun w hw => c_s_StoreView w (hr.now hw) hl) (k := fun z0 => ?_) | refine E.cm (h := fun w hw => hR1 w (hr.now hw)) (k := fun z1 => E.wy z1.1.2 (fun a1 => E.wy z1.2.2 (fun a2 => ?_))) | refine E.cm (h := fun w hw => hR2 _ w (RdF.ofK hw)) (k := fun z2 => E.wy z2.1.2 (fun b1 => E.wy z2.2.2 (fun b2 => ?_))) | refine E.cl (h := fun _ w _ => c_s_LabelOk w) (k := ?_) | refine E.cl (h := fun _ w _ => c_s_QueryOk w) (k := ?_) | refine E.cl (h := fun _ w hw => c_s_PoolOk w (hp.now hw)) (k := ?_) | refine E.b0 (α := Int) (fun v0 h0 => ?_) | refine E.q3 ?_ | refine E.q ?_ | refine E.qs ?_ | refine E.q2 ?_ | refine E.q4 ?_ | refine E.tr ?_ | refine E.ap (fun _ _ => ?_) | refine E.b1 (fun _ _ => ?_) | refine E.b0 (fun _ _ => ?_) | refine E.bsn (fun _ _ => ?_) | refine E.mk (fun _ _ => ?_) | refine E.bxO (fun _ => ?_) | refine E.al (fun _ => ?_) | refine E.sbO ?_ | refine E.dq ?_ | refine E.ct ?_ | refine E.cf ?_ | refine E.cs (fun hh => ?_) (fun hh => ?_) | refine E.at_block_other rfl ?_)
  all_goals first
    | exact rn (α := V1) ⟨_, by assumption⟩ (hK := ksv)
    | (exfalso; obtain ⟨⟨⟨i1, i2⟩, i3⟩, i4⟩ := hh; obtain ⟨g0, e1⟩ := Option.isSome_iff_exists.1 i1; exact hbad ⟨g0, e1, i2, i3, i4⟩)
    | trace_state
end E
end Go.Proofs.YtpiiapoafmnhhaaGreat
