/- What is done to a graph, as the reference says it. -/
import Derived.Test.YtjdagbicjhmeeaaQg
import Derived.Test.YtjdagbicjhmeeaaU
import Derived.Test.YtjdagbicjhmeeaaKp
namespace Go.Proofs.Ytjdagbicjhmeeaa
namespace E
open Go Go.RowKit
set_option linter.unusedSimpArgs false
set_option linter.unusedVariables false
set_option maxHeartbeats 1000000
set_option maxRecDepth 10000
attribute [local irreducible] HC HL HQ HX HO At Y YV Opd Opds KnX Sl Ld Src GV RV Calls Code.wp eptr adr RdF ownF OneX HG LdC
theorem get_gd {α : Type} {xs : List α} {k : Nat} {d : α} : decide ((k : Int) < (xs.length : Int)) = true → xs[k]? = some (xs.getD k d) := fun h => by
  have : k < xs.length := by simpa using h
  simp [List.getD_eq_getElem?_getD, this]
theorem eg_ne' {x : Eg} {l al an bl bn : Int} : ¬ [x.l, x.a.l, x.a.n, x.b.l, x.b.n] = [l, al, an, bl, bn] ↔ x ≠ ⟨l, ⟨al, an⟩, ⟨bl, bn⟩⟩ := by
  cases x; rename_i l a b; cases a; cases b; simp
theorem c_l2EdgeAt {v u : Value} {es : List Eg} {l al an bl bn : Int} (w : World) (hr : RdF w u es := by exact rdA) : Calls Try.prog 133 #[.agg #[v, u], .agg #[.int .i64 l, .int .i64 al, .int .i64 an, .int .i64 bl, .int .i64 bn]] w (Ret (fun _ : Unit => .int .i64 (posG es ⟨l, ⟨al, an⟩, ⟨bl, bn⟩⟩)) (fun _ => []) w) := by
  have m1 := hr.le
  have o1 := hr.one
  simp only [maxLen] at m1
  refine enter (args := _) Try.func133 rfl Try.ntmps133 (by simp) ?_
  repeat' (first | refine E.st ?_ | refine E.q3 ?_ | refine E.q ?_ | refine E.qs ?_ | refine E.q2 ?_ | refine E.q4 ?_ | refine E.tr ?_ | refine E.ap (fun _ _ => ?_) | refine E.b1 (fun _ _ => ?_) | refine E.b0 (fun _ _ => ?_) | refine E.bsn (fun _ _ => ?_) | refine E.mk (fun _ _ => ?_) | refine E.bxO (fun _ => ?_) | refine E.al (fun _ => ?_) | refine E.sbO ?_ | refine E.dq ?_ | refine E.ct ?_ | refine E.cf ?_ | refine E.cs (fun hh => ?_) (fun hh => ?_) | refine E.at_block_other rfl ?_)
  refine lq (fun k : Nat => k ≤ es.length ∧ ∀ y ∈ es.take k, y ≠ ⟨l, ⟨al, an⟩, ⟨bl, bn⟩⟩) (fun k => [(5, .pl (.int .i64 (k : Int)))]) (fun _ => []) (fun k => es.length - k) 0 ⟨Nat.zero_le _, by simp⟩ (fun k hk0 => ?_)
  obtain ⟨hk1, hk2⟩ := hk0
  rcases Nat.lt_or_ge k es.length with hlt | hge
  · obtain ⟨x, hx⟩ := get_lt hlt
    repeat' (first | refine E.st ?_ | refine E.q3 ?_ | refine E.q ?_ | refine E.qs ?_ | refine E.q2 ?_ | refine E.q4 ?_ | refine E.tr ?_ | refine E.ap (fun _ _ => ?_) | refine E.b1 (fun _ _ => ?_) | refine E.b0 (fun _ _ => ?_) | refine E.bsn (fun _ _ => ?_) | refine E.mk (fun _ _ => ?_) | refine E.bxO (fun _ => ?_) | refine E.al (fun _ => ?_) | refine E.sbO ?_ | refine E.dq ?_ | refine E.ct ?_ | refine E.cf ?_ | refine E.cs (fun hh => ?_) (fun hh => ?_) | refine E.at_block_other rfl ?_)
    · refine ri ?_
      have : x = ⟨l, ⟨al, an⟩, ⟨bl, bn⟩⟩ := Decidable.not_not.1 (fun h => eg_ne'.2 h hh)
      rw [posG_some (by rw [hx, this]) hk2]
    · exact rd (k + 1) ⟨by omega, all_step hk2 hx (eg_ne'.1 hh)⟩
  · repeat' (first | refine E.st ?_ | refine E.q3 ?_ | refine E.q ?_ | refine E.qs ?_ | refine E.q2 ?_ | refine E.q4 ?_ | refine E.tr ?_ | refine E.ap (fun _ _ => ?_) | refine E.b1 (fun _ _ => ?_) | refine E.b0 (fun _ _ => ?_) | refine E.bsn (fun _ _ => ?_) | refine E.mk (fun _ _ => ?_) | refine E.bxO (fun _ => ?_) | refine E.al (fun _ => ?_) | refine E.sbO ?_ | refine E.dq ?_ | refine E.ct ?_ | refine E.cf ?_ | refine E.cs (fun hh => ?_) (fun hh => ?_) | refine E.at_block_other rfl ?_)
    refine ri ?_
    rw [List.take_of_length_le hge] at hk2
    rw [posG_none (fun h => hk2 _ h rfl)]
theorem c_l2Copy {v u : Value} {ns : List Nd} {es : List Eg} (w : World) (hr : RdF w v ns := by exact rdA) (hq : RdF w u es := by exact rdA) (hn : ns.length ≤ 1048576 := by omega) (he : es.length ≤ 1048576 := by omega) :
    Calls Try.prog 90 #[.agg #[v, u]] w (Ret (fun z : { p : Value × Value // p.1.oneCell' = true ∧ p.2.oneCell' = true } => .agg #[z.1.1, z.1.2]) (fun z => [ownF 29 z.1.1 ns, ownF 31 z.1.2 es]) w) := by
  have o1 := hr.one
  have o2 := hq.one
  refine enter (args := _) Try.func90 rfl Try.ntmps90 (by simp) ?_
  repeat' (first | refine E.st ?_ | refine E.dx [1, 2, 5, 6, 0, 3, 4, 7, 8, 9] ?_ | refine E.br2 (i := 0) (j := 4) ?_ ?_ | refine E.br2 (i := 3) (j := 4) ?_ ?_ | refine E.q3 ?_ | refine E.q ?_ | refine E.qs ?_ | refine E.q2 ?_ | refine E.q4 ?_ | refine E.tr ?_ | refine E.ap (fun _ _ => ?_) | refine E.b1 (fun _ _ => ?_) | refine E.b0 (fun _ _ => ?_) | refine E.bsn (fun _ _ => ?_) | refine E.mk (fun _ _ => ?_) | refine E.bxO (fun _ => ?_) | refine E.al (fun _ => ?_) | refine E.sbO ?_ | refine E.dq ?_ | refine E.ct ?_ | refine E.cf ?_ | refine E.cs (fun hh => ?_) (fun hh => ?_) | refine E.at_block_other rfl ?_)
  all_goals (refine r1 (α := { p : Value × Value // p.1.oneCell' = true ∧ p.2.oneCell' = true }) ⟨(_, _), ?_⟩ (hK := KSub.ownF pk (by simp) (KSub.ownF pk (by simp) (KSub.nil _))); exact ⟨by assumption, by assumption⟩)
def putN (ns : List Nd) (n : Nd) : List Nd := ns.takeWhile (fun x => decide (cd x < cd n)) ++ n :: ns.dropWhile (fun x => decide (cd x < cd n))
def putE (es : List Eg) (e : Eg) : List Eg := es.takeWhile (fun x => lessE x e) ++ e :: es.dropWhile (fun x => lessE x e)
theorem while_at {α : Type} (p : α → Bool) : ∀ (xs : List α) (k : Nat), k ≤ xs.length → (∀ (i : Nat) x, i < k → xs[i]? = some x → p x = true) → (∀ x, xs[k]? = some x → p x = false) → xs.takeWhile p = xs.take k ∧ xs.dropWhile p = xs.drop k
  | [], k, _, _, _ => by simp
  | x :: xs, 0, _, _, h => by
    have := h x rfl
    simp [this]
  | x :: xs, k + 1, hk, h1, h2 => by
    have hx := h1 0 x (by omega) rfl
    obtain ⟨a, b⟩ := while_at p xs k (by simpa using hk) (fun i y hi hy => h1 (i + 1) y (by omega) (by simpa using hy)) (fun y hy => h2 y (by simpa using hy))
    simp [hx, a, b]
theorem putN_ins {ns : List Nd} {n : Nd} (h : Ord ns) : putN ns n = insN ns n := by
  obtain ⟨m, m1, m2, m3⟩ := parts cd ns (cd n) h.2
  obtain ⟨a, b⟩ := filter_split (fun y => decide (cd y < cd n)) ns m m1 (fun i x hx hi => by simp [m2 i x hx hi]) (fun i x hx hi => by have := m3 i x hx hi; simp; omega)
  obtain ⟨c, d⟩ := while_at (fun y => decide (cd y < cd n)) ns m m1 (fun i x hi hx => by simp [m2 i x hx hi]) (fun x hx => by have := m3 m x hx (Nat.le_refl _); simp; omega)
  unfold putN insN
  rw [a, b, c, d]
theorem putE_ins {ns : List Nd} {es : List Eg} {e : Eg} (h : EOk ns es) (he : eok e = true) : putE es e = insE es e := by
  obtain ⟨m, m1, m2, m3⟩ := parts ekey es (ekey e) h.2.1
  have hl : ∀ (i : Nat) x, es[i]? = some x → (lessE x e = true ↔ ekey x < ekey e) := fun i x hx => lessE_key (h.1 x (List.mem_of_getElem? hx)).1 he
  obtain ⟨a, b⟩ := filter_split (fun y => decide (ekey y < ekey e)) es m m1 (fun i x hx hi => by simp [m2 i x hx hi]) (fun i x hx hi => by have := m3 i x hx hi; simp; omega)
  obtain ⟨c, d⟩ := while_at (fun y => lessE y e) es m m1 (fun i x hi hx => (hl i x hx).2 (m2 i x hx hi)) (fun x hx => by
    have h1 := m3 m x hx (Nat.le_refl _)
    cases hb : lessE x e with
    | false => rfl
    | true => have := (hl m x hx).1 hb; omega)
  unfold putE insE
  rw [a, b, c, d]
theorem c_l2PutNode {v u : Value} {ns : List Nd} {l n : Int} {w0 : World} {K : List Ck} (w : World) (hw : KOk w0 (ownF 29 v ns :: K) w) (hu : u.oneCell' = true := by assumption) (hl : ns.length ≤ 1000000 := by omega) : Calls Try.prog 78 #[.agg #[v, u], .agg #[.int .i64 l, .int .i64 n]] w (RetK (fun z : { v' : Value // v'.oneCell' = true } => .agg #[z.1, u]) (fun z => ownF 29 z.1 (putN ns ⟨l, n⟩) :: K) w0) := by
  have hr : RdF w v ns := RdF.of_own (List.mem_cons_self) hw
  have hv := hr.one
  have hsl : IsSl v ns.length := hr.isl
  refine enterK (args := _) hw Try.func78 rfl Try.ntmps78 (by simp) ?_
  repeat' (first | refine E.st ?_ | refine E.q3 ?_ | refine E.q ?_ | refine E.qs ?_ | refine E.q2 ?_ | refine E.q4 ?_ | refine E.tr ?_ | refine E.ap (fun _ _ => ?_) | refine E.b1 (fun _ _ => ?_) | refine E.b0 (fun _ _ => ?_) | refine E.bsn (fun _ _ => ?_) | refine E.mk (fun _ _ => ?_) | refine E.bxO (fun _ => ?_) | refine E.al (fun _ => ?_) | refine E.sbO ?_ | refine E.dq ?_ | refine E.ct ?_ | refine E.cf ?_ | refine E.cs (fun hh => ?_) (fun hh => ?_) | refine E.at_block_other rfl ?_)
  refine lq (fun k : Nat => k ≤ ns.length ∧ ∀ (i : Nat) x, i < k → ns[i]? = some x → cd x < cd ⟨l, n⟩) (fun k => [(5, .pl (.int .i64 (k : Int)))]) (fun _ => []) (fun k => ns.length - k) 0 ⟨Nat.zero_le _, fun i x h => absurd h (by omega)⟩ (fun k hk0 => ?_)
  obtain ⟨hk1, hk2⟩ := hk0
  have hfin : (∀ x, ns[k]? = some x → ¬ cd x < cd ⟨l, n⟩) → ns.take k ++ ⟨l, n⟩ :: ns.drop k = putN ns ⟨l, n⟩ := fun h => by
    obtain ⟨a, b⟩ := while_at (fun x => decide (cd x < cd ⟨l, n⟩)) ns k hk1 (fun i x hi hx => by simp [hk2 i x hi hx]) (fun x hx => by simp [h x hx])
    unfold putN
    rw [a, b]
  have hdl : (ns.drop k).length = ns.length - k := by simp
  have htl : (ns.take k).length = k := by simp; omega
  have hrs : RdIn w0 (ownF 29 v ns :: K) (part v 2 k ns.length) (ns.drop k) := (RdIn.own (List.mem_cons_self)).suf hk1
  have hx := get_gd (xs := ns) (k := k) (d := ⟨0, 0⟩)
  generalize ns.getD k ⟨0, 0⟩ = x at hx
  repeat' (first | refine E.st ?_ | refine E.cl (h := fun _ w _ => c_s_l2Code w) (k := ?_) | refine E.apI (hs := RdIn.sub hrs ks) (hr := fun _ _ => ?_) | refine E.dxo v [0, 1, 2, 3, 4, 7, 5, 6, 8, 9, 10] ?_ | refine E.apP (hr := fun _ _ => ?_) | refine E.q3 ?_ | refine E.q ?_ | refine E.qs ?_ | refine E.q2 ?_ | refine E.q4 ?_ | refine E.tr ?_ | refine E.ap (fun _ _ => ?_) | refine E.b1 (fun _ _ => ?_) | refine E.b0 (fun _ _ => ?_) | refine E.bsn (fun _ _ => ?_) | refine E.mk (fun _ _ => ?_) | refine E.bxO (fun _ => ?_) | refine E.al (fun _ => ?_) | refine E.sbO ?_ | refine E.dq ?_ | refine E.ct ?_ | refine E.cf ?_ | refine E.cs (fun hh => ?_) (fun hh => ?_) | refine E.at_block_other rfl ?_)
  · refine rd (k + 1) ⟨by omega, fun i y hi hy => ?_⟩
    rcases Nat.lt_or_ge i k with h | h
    · exact hk2 i y h hy
    · have : i = k := by omega
      subst this
      rw [hx (decide_eq_true hh.1)] at hy; injection hy with hy; subst hy
      exact hh.2
  · refine r1K (α := { v' : Value // v'.oneCell' = true }) ⟨_, ?_⟩ (hK := KSub.ownF pk ?_ ks)
    · assumption
    · rw [← hfin (fun y hy => by
        have hlt := (List.getElem?_eq_some_iff.1 hy).1
        rw [hx (decide_eq_true (by omega))] at hy; injection hy with hy; subst hy
        rcases hh with h | h
        · omega
        · exact h)]
      simp
theorem c_l2PutEdge {v u : Value} {es : List Eg} {l al an bl bn : Int} {w0 : World} {K : List Ck} (w : World) (hw : KOk w0 (ownF 31 u es :: K) w) (hu : v.oneCell' = true := by assumption) (hl : es.length ≤ 1000000 := by omega) : Calls Try.prog 111 #[.agg #[v, u], .agg #[.int .i64 l, .int .i64 al, .int .i64 an, .int .i64 bl, .int .i64 bn]] w (RetK (fun z : { v' : Value // v'.oneCell' = true } => .agg #[v, z.1]) (fun z => ownF 31 z.1 (putE es ⟨l, ⟨al, an⟩, ⟨bl, bn⟩⟩) :: K) w0) := by
  have hr : RdF w u es := RdF.of_own (List.mem_cons_self) hw
  have hv := hr.one
  have hsl : IsSl u es.length := hr.isl
  refine enterK (args := _) hw Try.func111 rfl Try.ntmps111 (by simp) ?_
  repeat' (first | refine E.st ?_ | refine E.q3 ?_ | refine E.q ?_ | refine E.qs ?_ | refine E.q2 ?_ | refine E.q4 ?_ | refine E.tr ?_ | refine E.ap (fun _ _ => ?_) | refine E.b1 (fun _ _ => ?_) | refine E.b0 (fun _ _ => ?_) | refine E.bsn (fun _ _ => ?_) | refine E.mk (fun _ _ => ?_) | refine E.bxO (fun _ => ?_) | refine E.al (fun _ => ?_) | refine E.sbO ?_ | refine E.dq ?_ | refine E.ct ?_ | refine E.cf ?_ | refine E.cs (fun hh => ?_) (fun hh => ?_) | refine E.at_block_other rfl ?_)
  refine lq (fun k : Nat => k ≤ es.length ∧ ∀ (i : Nat) x, i < k → es[i]? = some x → lessE x ⟨l, ⟨al, an⟩, ⟨bl, bn⟩⟩ = true) (fun k => [(5, .pl (.int .i64 (k : Int)))]) (fun _ => []) (fun k => es.length - k) 0 ⟨Nat.zero_le _, fun i x h => absurd h (by omega)⟩ (fun k hk0 => ?_)
  obtain ⟨hk1, hk2⟩ := hk0
  have hfin : (∀ x, es[k]? = some x → lessE x ⟨l, ⟨al, an⟩, ⟨bl, bn⟩⟩ = false) → es.take k ++ ⟨l, ⟨al, an⟩, ⟨bl, bn⟩⟩ :: es.drop k = putE es ⟨l, ⟨al, an⟩, ⟨bl, bn⟩⟩ := fun h => by
    obtain ⟨a, b⟩ := while_at (fun x => lessE x ⟨l, ⟨al, an⟩, ⟨bl, bn⟩⟩) es k hk1 hk2 h
    unfold putE
    rw [a, b]
  have hdl : (es.drop k).length = es.length - k := by simp
  have htl : (es.take k).length = k := by simp; omega
  have hrs : RdIn w0 (ownF 31 u es :: K) (part u 5 k es.length) (es.drop k) := (RdIn.own (List.mem_cons_self)).suf hk1
  have hx := get_gd (xs := es) (k := k) (d := ⟨0, ⟨0, 0⟩, ⟨0, 0⟩⟩)
  generalize es.getD k ⟨0, ⟨0, 0⟩, ⟨0, 0⟩⟩ = x at hx
  repeat' (first | refine E.st ?_ | refine E.cl (h := fun _ w _ => c_s_l2Less w) (k := ?_) | refine E.apI (hs := RdIn.sub hrs ks) (hr := fun _ _ => ?_) | refine E.dxo u [0, 1, 2, 3, 4, 7, 5, 6, 8, 9, 10] ?_ | refine E.apP (hr := fun _ _ => ?_) | refine E.q3 ?_ | refine E.q ?_ | refine E.qs ?_ | refine E.q2 ?_ | refine E.q4 ?_ | refine E.tr ?_ | refine E.ap (fun _ _ => ?_) | refine E.b1 (fun _ _ => ?_) | refine E.b0 (fun _ _ => ?_) | refine E.bsn (fun _ _ => ?_) | refine E.mk (fun _ _ => ?_) | refine E.bxO (fun _ => ?_) | refine E.al (fun _ => ?_) | refine E.sbO ?_ | refine E.dq ?_ | refine E.ct ?_ | refine E.cf ?_ | refine E.cs (fun hh => ?_) (fun hh => ?_) | refine E.at_block_other rfl ?_)
  · refine rd (k + 1) ⟨by omega, fun i y hi hy => ?_⟩
    rcases Nat.lt_or_ge i k with h | h
    · exact hk2 i y h hy
    · have : i = k := by omega
      subst this
      rw [hx (decide_eq_true hh.1)] at hy; injection hy with hy; subst hy
      exact hh.2
  · refine r1K (α := { v' : Value // v'.oneCell' = true }) ⟨_, ?_⟩ (hK := KSub.ownF pk ?_ ks)
    · assumption
    · rw [← hfin (fun y hy => by
        have hlt := (List.getElem?_eq_some_iff.1 hy).1
        rw [hx (decide_eq_true (by omega))] at hy; injection hy with hy; subst hy
        rcases hh with h | h
        · omega
        · exact h)]
      simp
end E
end Go.Proofs.Ytjdagbicjhmeeaa
