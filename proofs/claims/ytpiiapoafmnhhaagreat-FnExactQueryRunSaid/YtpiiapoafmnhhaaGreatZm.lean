/- QueryRun on both sides, told alike. -/
import Derived.Test.YtpiiapoafmnhhaaGreatZk
import Derived.Test.YtpiiapoafmnhhaaGreatM16
namespace Go.Proofs.YtpiiapoafmnhhaaGreat
namespace E
open Go Go.RowKit
theorem KOk.addn {w0 w : World} {K : List Ck} (h : KOk w0 K w) (α : Type) [Flat α] (e : TypeId) : KOk w0 (ownF e (.slice none 0 0) ([] : List α) :: K) w := h.addnil e (Flat.k α)
set_option linter.unusedSimpArgs false
set_option linter.unusedVariables false
set_option maxHeartbeats 1000000
set_option maxRecDepth 10000
attribute [local irreducible] HC HL HQ HX HO At Y YV Opd Opds KnX Sl Ld Src GV RV Calls Code.wp eptr adr RdF ownF OneX HG LdC
theorem ask_le (g : Gr) (q : Qu) : (askL g q).length ≤ 1000 := by
  unfold askL
  split
  · rename_i h
    have hn := h.1.1.len
    have he := h.1.2.len
    have h1 := near_len g.es q.n
    unfold askG
    split
    · simp; omega
    · split
      · by_cases hm : q.n ∈ g.ns
        · rw [distL_len h.1 hm]; omega
        · unfold distL; rw [if_neg hm]; simp
      · split
        · rw [coreL_len]; omega
        · simp
  · simp
def goodQ (xs : List Sg) (c : Int) (p : Pl) (q : Qu) : Prop := ∃ g0, readL xs = some g0 ∧ lok c = true ∧ qok q = true ∧ PlOk p
open Classical in
/-- What bytes answer, with what is at hand. -/
noncomputable def runQ (xs : List Sg) (c : Int) (p : Pl) (q : Qu) : List Int × Pl × Int := if goodQ xs c p q then (askL (view (grO (readL xs)) c) q, (allP p (pagesL (view (grO (readL xs)) c) q)).1, (allP p (pagesL (view (grO (readL xs)) c) q)).2) else ([], ⟨0, []⟩, 0)
theorem runQ_y {xs : List Sg} {c : Int} {p : Pl} {q : Qu} {g0 : Gr} (e : readL xs = some g0) (hc : lok c = true) (hq : qok q = true) (hp : PlOk p) : runQ xs c p q = (askL (view g0 c) q, (allP p (pagesL (view g0 c) q)).1, (allP p (pagesL (view g0 c) q)).2) := by
  unfold runQ
  rw [if_pos ⟨g0, e, hc, hq, hp⟩, e]
  rfl
theorem runQ_n {xs : List Sg} {c : Int} {p : Pl} {q : Qu} (h : ¬ goodQ xs c p q) : runQ xs c p q = ([], ⟨0, []⟩, 0) := if_neg h
theorem runQ_len (xs : List Sg) (c : Int) (p : Pl) (q : Qu) : (runQ xs c p q).1.length ≤ 1000 ∧ (runQ xs c p q).2.1.l.length ≤ 1000 := by
  by_cases h : goodQ xs c p q
  · obtain ⟨g0, e1, hc, hq, hp⟩ := h
    rw [runQ_y e1 hc hq hp]
    have hgv := (readL_some e1).1.view (c := c)
    have h1 := PlOk.all (p := p) (list := pagesL (view g0 c) q) hp (fun x hx => (pages_in hgv hx).1)
    have h2 := h1.1
    refine ⟨?_, by dsimp only; omega⟩
    exact ask_le _ _
  · rw [runQ_n h]; simp
theorem c_s_Run {v : Value} {xs : List Sg} {c k l n z : Int} {A : Option Addr} {m cp : Nat} {ps : List Pg} (w : World) (hs : ∀ s ∈ xs, s.b.size ≤ 4000000) (hl : xs.length ≤ 2000000) (hr : RdF w v xs := by exact rdA) (hp : RdF w (.slice A m cp) ps := by exact rdA) :
    Calls Tryz.prog 43 #[v, .int .i64 c, .agg #[.int .i64 z, .slice A m cp], .agg #[.int .i64 k, .int .i64 l, .int .i64 n]] w (Ret (fun y : V1 × Sv => .tuple #[y.1.1, .agg #[.int .i64 (runQ xs c ⟨z, ps⟩ ⟨k, ⟨l, n⟩⟩).2.1.z, .slice y.2.a y.2.n y.2.c], .int .i64 (runQ xs c ⟨z, ps⟩ ⟨k, ⟨l, n⟩⟩).2.2]) (fun y => [ownF 3 y.1.1 (runQ xs c ⟨z, ps⟩ ⟨k, ⟨l, n⟩⟩).1, ownF 63 (.slice y.2.a y.2.n y.2.c) (runQ xs c ⟨z, ps⟩ ⟨k, ⟨l, n⟩⟩).2.1.l]) w) := by
  by_cases h : goodQ xs c ⟨z, ps⟩ ⟨k, ⟨l, n⟩⟩
  · obtain ⟨g0, e1, hc, hq, hok⟩ := h
    rw [runQ_y e1 hc hq hok, allP_z]
    refine (c_s_QueryRun_y w hs hl e1 hc hq hok hr hp).mono fun en w' ⟨y, he, hk⟩ => ?_
    obtain ⟨y1, ⟨v2, h2⟩⟩ := y
    obtain ⟨s, rfl⟩ := ownF_sv (List.mem_cons_of_mem _ List.mem_cons_self) hk
    exact ⟨(y1, s), he, hk⟩
  · rw [runQ_n h]
    refine (c_s_QueryRun_n w hs hl h hr hp).mono fun en w' ⟨y, he, hk⟩ => ?_
    exact ⟨(y, ⟨none, 0, 0⟩), he, (hk.addn Pg 63).perm (List.Perm.swap _ _ _)⟩
theorem c_i_Run {v : Value} {xs : List Sg} {c k l n z : Int} {A : Option Addr} {m cp : Nat} {ps : List Pg} (w : World) (hs : ∀ s ∈ xs, s.b.size ≤ 4000000) (hl : xs.length ≤ 2000000) (hr : RdF w v xs := by exact rdA) (hp : RdF w (.slice A m cp) ps := by exact rdA) :
    Calls Tryz.prog 38 #[v, .int .i64 c, .agg #[.int .i64 z, .slice A m cp], .agg #[.int .i64 k, .int .i64 l, .int .i64 n]] w (Ret (fun y : V1 × Sv => .tuple #[y.1.1, .agg #[.int .i64 (runQ xs c ⟨z, ps⟩ ⟨k, ⟨l, n⟩⟩).2.1.z, .slice y.2.a y.2.n y.2.c], .int .i64 (runQ xs c ⟨z, ps⟩ ⟨k, ⟨l, n⟩⟩).2.2]) (fun y => [ownF 3 y.1.1 (runQ xs c ⟨z, ps⟩ ⟨k, ⟨l, n⟩⟩).1, ownF 63 (.slice y.2.a y.2.n y.2.c) (runQ xs c ⟨z, ps⟩ ⟨k, ⟨l, n⟩⟩).2.1.l]) w) := by
  by_cases h : goodQ xs c ⟨z, ps⟩ ⟨k, ⟨l, n⟩⟩
  · obtain ⟨g0, e1, hc, hq, hok⟩ := h
    rw [runQ_y e1 hc hq hok, allP_z]
    exact c_i_QueryRun_y w hs hl e1 hc hq hok hr hp
  · rw [runQ_n h]
    refine (c_i_QueryRun_n w hs hl h hr hp).mono fun en w' ⟨y, he, hk⟩ => ?_
    exact ⟨(⟨.slice none 0 0, rfl⟩, ⟨none, 0, 0⟩), he, ((hk.addn Pg 63).addn Int 3)⟩
end E
end Go.Proofs.YtpiiapoafmnhhaaGreat
