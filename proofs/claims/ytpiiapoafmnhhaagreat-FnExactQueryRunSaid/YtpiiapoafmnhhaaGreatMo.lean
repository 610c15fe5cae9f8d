/- A store is read, as the reference reads it. -/
import Derived.Test.YtpiiapoafmnhhaaGreatMj
import Derived.Test.YtpiiapoafmnhhaaGreatMh
import Derived.Test.YtpiiapoafmnhhaaGreatMc
import Derived.Test.YtpiiapoafmnhhaaGreatM13
namespace Go.Proofs.YtpiiapoafmnhhaaGreat
namespace E
open Go Go.RowKit
set_option linter.unusedSimpArgs false
set_option linter.unusedVariables false
set_option maxHeartbeats 1000000
set_option maxRecDepth 10000
attribute [local irreducible] HC HL HQ HX HO At Y YV Opd Opds KnX Sl Ld Src GV RV Calls Code.wp eptr adr RdF ownF OneX HG LdC
theorem c_l4Read_n {v u : Value} {ns : List Nd} {es : List Eg} {a : Int} {s : ByteArray} {w0 : World} {K : List Ck} (w : World) (hc : clsA (bn s) = none) (hw : KOk w0 (ownF 32 v ns :: ownF 84 u es :: K) w) (hnl : ns.length ≤ 2000 := by omega) (hl : es.length ≤ 1000 := by omega) (hs : s.size ≤ 4000000 := by omega) :
    Calls Tryz.prog 122 #[.agg #[v, u], .agg #[.int .i64 a, .string s]] w (RetK (fun z : V1 × V1 × List Nd × { es' : List Eg // es'.length ≤ es.length + 3000000 } => .tuple #[.agg #[z.1.1, z.2.1.1], .bool false]) (fun z => ownF 32 z.1.1 z.2.2.1 :: ownF 84 z.2.1.1 z.2.2.2.1 :: K) w0) :=
  (c_l4Read w hw).mono fun en w' ⟨z, he, hk⟩ => by
    have h1 : z.1.2.2.2.2 = false := by
      cases h : z.1.2.2.2.2 with
      | false => rfl
      | true => obtain ⟨c, h2⟩ := z.2.2.2.1.1 h; rw [hc] at h2; cases h2
    dsimp only at he hk
    rw [h1] at he
    exact ⟨(z.1.1, z.1.2.1, z.1.2.2.1, ⟨z.1.2.2.2.1, z.2.2.1⟩), he, hk⟩
theorem c_l4Read_s {v u : Value} {ns : List Nd} {es : List Eg} {a : Int} {s : ByteArray} {w0 : World} {K : List Ck} {c : Cls} (w : World) (hc : clsA (bn s) = some c) (hw : KOk w0 (ownF 32 v ns :: ownF 84 u es :: K) w) (hnl : ns.length ≤ 2000 := by omega) (hl : es.length ≤ 1000 := by omega) (hs : s.size ≤ 4000000 := by omega) :
    Calls Tryz.prog 122 #[.agg #[v, u], .agg #[.int .i64 a, .string s]] w (RetK (fun z : { z : V1 × V1 // (ns ++ clsNs a c).length ≤ ns.length + 127 ∧ (es ++ clsEs a c).length ≤ es.length + 3000000 } => .tuple #[.agg #[z.1.1.1, z.1.2.1], .bool true]) (fun z => ownF 32 z.1.1.1 (ns ++ clsNs a c) :: ownF 84 z.1.2.1 (es ++ clsEs a c) :: K) w0) :=
  (c_l4Read w hw).mono fun en w' ⟨z, he, hk⟩ => by
    have h1 : z.1.2.2.2.2 = true := z.2.2.2.1.2 ⟨c, hc⟩
    have h2 := z.2.2.2.2 c hc
    have h3 := z.2.1
    have h4 := z.2.2.1
    dsimp only at he hk
    rw [h1] at he
    rw [h2.1, h2.2] at hk
    rw [h2.1] at h3
    rw [h2.2] at h4
    exact ⟨⟨(z.1.1, z.1.2.1), h3, h4⟩, he, hk⟩
def grO (o : Option Gr) : Gr := o.getD ⟨[], []⟩
theorem parse_len : ∀ (xs : List Sg) (g0 : Gr) {g : Gr}, parse xs g0 = some g → g0.es.length ≤ g.es.length
  | [], g0, g, h => by simp only [parse, Option.some.injEq] at h; rw [h]; exact Nat.le_refl _
  | s :: ss, g0, g, h => by
    unfold parse at h
    split at h
    · cases h
    · have := parse_len ss _ h
      simp only [addSg, List.length_append] at this
      omega
theorem drop_get {α : Type} {xs : List α} {k : Nat} {x : α} (h : xs[k]? = some x) : xs.drop k = x :: xs.drop (k + 1) := by
  obtain ⟨hlt, e⟩ := List.getElem?_eq_some_iff.1 h
  rw [List.drop_eq_getElem_cons hlt, e]
theorem readL_big {xs : List Sg} (h : 8 < xs.length) : readL xs = none := by
  cases hR : readL xs with
  | none => rfl
  | some g =>
    have h1 := (readL_some hR).2.1
    have h2 := storeL_len g
    rw [h1] at h2
    omega
theorem readL_no {xs : List Sg} (h : ∀ g, parse xs ⟨[], []⟩ = some g → g.ok → storeL g = xs → False) : readL xs = none := by
  cases hR : readL xs with
  | none => rfl
  | some g => exact (h g (readL_some hR).2.2 (readL_some hR).1 (readL_some hR).2.1).elim
theorem readL_yes {xs : List Sg} {g : Gr} (h : parse xs ⟨[], []⟩ = some g) (hg : g.ok) (hs : storeL g = xs) : readL xs = some g := by
  rw [← hs]; exact readL_store hg
theorem c_s_StoreRead {v : Value} {xs : List Sg} (w : World) (hs : ∀ s ∈ xs, s.b.size ≤ 4000000) (hr : RdF w v xs := by exact rdA) : Calls Tryz.prog 60 #[v] w (Ret (fun z : V1 × V1 => .tuple #[.agg #[z.1.1, z.2.1], .bool (readL xs).isSome]) (fun z => [ownF 32 z.1.1 (grO (readL xs)).ns, ownF 84 z.2.1 (grO (readL xs)).es]) w) := by
  have o1 := hr.one
  have m1 := hr.le
  simp only [maxLen] at m1
  rcases Nat.lt_or_ge 8 xs.length with h8 | h8
  · rw [readL_big h8]
    refine enter (args := _) Tryz.func60 rfl Tryz.ntmps60 (by simp) ?_
    refine E.nl 32 (α := Nd) ?_
    refine E.nl 84 (α := Eg) ?_
    repeat' (first | refine E.st ?_ | refine E.b0 (α := Nd) (fun vN hN => ?_) | refine E.b0 (α := Eg) (fun vE hE => ?_) | refine E.q3 ?_ | refine E.q ?_ | refine E.qs ?_ | refine E.q2 ?_ | refine E.q4 ?_ | refine E.tr ?_ | refine E.ap (fun _ _ => ?_) | refine E.b1 (fun _ _ => ?_) | refine E.b0 (fun _ _ => ?_) | refine E.bsn (fun _ _ => ?_) | refine E.mk (fun _ _ => ?_) | refine E.bxO (fun _ => ?_) | refine E.al (fun _ => ?_) | refine E.sbO ?_ | refine E.dq ?_ | refine E.ct ?_ | refine E.cf ?_ | refine E.cs (fun hh => ?_) (fun hh => ?_) | refine E.at_block_other rfl ?_)
    exact rn (α := V1 × V1) (⟨.slice none 0 0, rfl⟩, ⟨.slice none 0 0, rfl⟩) (hK := ksv)
  · generalize hR : readL xs = R
    refine enter (args := _) Tryz.func60 rfl Tryz.ntmps60 (by simp) ?_
    refine E.nl 32 (α := Nd) ?_
    refine E.nl 84 (α := Eg) ?_
    repeat' (first | refine E.st ?_ | refine E.al (fun g => ?_) | refine E.b0 (α := Nd) (fun vN hN => ?_) | refine E.b0 (α := Eg) (fun vE hE => ?_) | refine E.q3 ?_ | refine E.q ?_ | refine E.qs ?_ | refine E.q2 ?_ | refine E.q4 ?_ | refine E.tr ?_ | refine E.ap (fun _ _ => ?_) | refine E.b1 (fun _ _ => ?_) | refine E.b0 (fun _ _ => ?_) | refine E.bsn (fun _ _ => ?_) | refine E.mk (fun _ _ => ?_) | refine E.bxO (fun _ => ?_) | refine E.al (fun _ => ?_) | refine E.sbO ?_ | refine E.dq ?_ | refine E.ct ?_ | refine E.cf ?_ | refine E.cs (fun hh => ?_) (fun hh => ?_) | refine E.at_block_other rfl ?_)
    refine lq (fun z : Nat × V1 × V1 × Gr => z.1 ≤ xs.length ∧ z.2.2.2.ns.length ≤ 127 * z.1 ∧ z.2.2.2.es.length ≤ 200 ∧ parse xs ⟨[], []⟩ = parse (xs.drop z.1) z.2.2.2) (fun z => [(5, .pl (.int .i64 (z.1 : Int)))]) (fun z => [.box g 45 [z.2.1.1, z.2.2.1.1], ownF 32 z.2.1.1 z.2.2.2.ns, ownF 84 z.2.2.1.1 z.2.2.2.es]) (fun z => xs.length - z.1) (0, ⟨vN, hN⟩, ⟨vE, hE⟩, ⟨[], []⟩) ⟨Nat.zero_le _, by simp, by simp, rfl⟩ (fun z hz => ?_)
    obtain ⟨k, ⟨vM, hM⟩, ⟨vD, hD⟩, G⟩ := z
    obtain ⟨hk, hn, he, hP⟩ := hz
    dsimp only at hk hn he hP hM hD ⊢
    rcases Nat.lt_or_ge k xs.length with hlt | hge
    · obtain ⟨⟨sl, sb⟩, hx⟩ := get_lt hlt
      have hsz := hs _ (List.mem_of_getElem? hx)
      dsimp only at hsz
      rw [drop_get hx] at hP
      simp only [parse] at hP
      cases hc : clsA (bn sb) with
      | none =>
        rw [hc] at hP
        have hN2 : R = none := by rw [← hR]; exact readL_no (fun g h _ _ => by rw [hP] at h; cases h)
        subst hN2
        repeat' (first | refine E.st ?_ | refine E.dxs 5 (i := 8) [0, 1, 2, 3, 4, 5, 6, 7, 8, 9, 10] ?_ | refine E.qp ?_ | refine E.ckl [ownF 32 vM G.ns, ownF 84 vD G.es] (h := fun w hw => c_l4Read_n w hc (hw.perm List.perm_append_comm)) (k := fun z => E.wy z.1.2 (fun h1 => E.wy z.2.1.2 (fun h2 => ?_))) | refine E.q3 ?_ | refine E.q ?_ | refine E.qs ?_ | refine E.q2 ?_ | refine E.q4 ?_ | refine E.tr ?_ | refine E.ap (fun _ _ => ?_) | refine E.b1 (fun _ _ => ?_) | refine E.b0 (fun _ _ => ?_) | refine E.bsn (fun _ _ => ?_) | refine E.mk (fun _ _ => ?_) | refine E.bxO (fun _ => ?_) | refine E.al (fun _ => ?_) | refine E.sbO ?_ | refine E.dq ?_ | refine E.ct ?_ | refine E.cf ?_ | refine E.cs (fun hh => ?_) (fun hh => ?_) | refine E.at_block_other rfl ?_)
        all_goals first
          | exact rn (α := V1 × V1) (⟨.slice none 0 0, rfl⟩, ⟨.slice none 0 0, rfl⟩) (hK := ksv)
          | (exfalso; simp at hh; done)
          | trace_state
      | some c =>
        rw [hc] at hP
        dsimp only at hP
        rcases Nat.lt_or_ge 200 (G.es ++ clsEs sl c).length with hb | hb
        · have hN2 : R = none := by
            rw [← hR]
            refine readL_no (fun g h hg _ => ?_)
            rw [hP] at h
            have h1 := parse_len _ _ h
            have h2 := hg.2.len
            simp only [addSg] at h1
            omega
          subst hN2
          repeat' (first | refine E.st ?_ | refine E.dxs 5 (i := 8) [0, 1, 2, 3, 4, 5, 6, 7, 8, 9, 10] ?_ | refine E.qp ?_ | refine E.ckl [ownF 32 vM G.ns, ownF 84 vD G.es] (h := fun w hw => c_l4Read_s w hc (hw.perm List.perm_append_comm)) (k := fun z => E.wy z.1.1.2 (fun h1 => E.wy z.1.2.2 (fun h2 => E.wy z.2 (fun h3 => ?_)))) | refine E.q3 ?_ | refine E.q ?_ | refine E.qs ?_ | refine E.q2 ?_ | refine E.q4 ?_ | refine E.tr ?_ | refine E.ap (fun _ _ => ?_) | refine E.b1 (fun _ _ => ?_) | refine E.b0 (fun _ _ => ?_) | refine E.bsn (fun _ _ => ?_) | refine E.mk (fun _ _ => ?_) | refine E.bxO (fun _ => ?_) | refine E.al (fun _ => ?_) | refine E.sbO ?_ | refine E.dq ?_ | refine E.ct ?_ | refine E.cf ?_ | refine E.cs (fun hh => ?_) (fun hh => ?_) | refine E.at_block_other rfl ?_)
          all_goals first
            | exact rn (α := V1 × V1) (⟨.slice none 0 0, rfl⟩, ⟨.slice none 0 0, rfl⟩) (hK := ksv)
            | (exfalso; simp at hh; omega)
            | (exfalso; simp at hh hb; omega)
            | trace_state
        · repeat' (first | refine E.st ?_ | refine E.dxs 5 (i := 8) [0, 1, 2, 3, 4, 5, 6, 7, 8, 9, 10] ?_ | refine E.qp ?_ | refine E.ckl [ownF 32 vM G.ns, ownF 84 vD G.es] (h := fun w hw => c_l4Read_s w hc (hw.perm List.perm_append_comm)) (k := fun z => E.wy z.1.1.2 (fun h1 => E.wy z.1.2.2 (fun h2 => E.wy z.2 (fun h3 => ?_)))) | refine E.q3 ?_ | refine E.q ?_ | refine E.qs ?_ | refine E.q2 ?_ | refine E.q4 ?_ | refine E.tr ?_ | refine E.ap (fun _ _ => ?_) | refine E.b1 (fun _ _ => ?_) | refine E.b0 (fun _ _ => ?_) | refine E.bsn (fun _ _ => ?_) | refine E.mk (fun _ _ => ?_) | refine E.bxO (fun _ => ?_) | refine E.al (fun _ => ?_) | refine E.sbO ?_ | refine E.dq ?_ | refine E.ct ?_ | refine E.cf ?_ | refine E.cs (fun hh => ?_) (fun hh => ?_) | refine E.at_block_other rfl ?_)
          all_goals first
            | exact rd (α := Nat × V1 × V1 × Gr) (k + 1, z.1.1, z.1.2, addSg G sl c) ⟨hlt, by have := h3.1; simp only [addSg] at *; omega, hb, hP⟩ (hK := KSub.pick pk (KSub.ownF pk rfl (KSub.ownF pk rfl ksv)))
            | (exfalso; simp at hh; omega)
            | (exfalso; simp at hh hb; omega)
            | trace_state
    · have hP2 : parse xs ⟨[], []⟩ = some G := by rw [hP, List.drop_of_length_le hge]; rfl
      cases hgk : gok G.ns G.es with
      | false =>
        have hN2 : R = none := by
          rw [← hR]
          refine readL_no (fun g h hg _ => ?_)
          rw [hP2] at h
          injection h with h
          subst h
          have := Gr.ok_iff.1 hg
          rw [hgk] at this
          cases this
        subst hN2
        have hGo : ∀ w, RdF w vM G.ns → RdF w vD G.es → Calls Tryz.prog 28 #[.agg #[vM, vD]] w (Ret (fun _ : Unit => .bool false) (fun _ => []) w) := fun w a b => by
          have h0 := c_s_GraphOk w a b
          rw [hgk] at h0
          exact h0
        repeat' (first | refine E.st ?_ | refine E.ug ?_ | refine E.sk ?_ | refine E.cl (h := fun _ w hw => hGo w (RdF.of_own memO hw) (RdF.of_own memO hw)) (k := ?_) | refine E.q3 ?_ | refine E.q ?_ | refine E.qs ?_ | refine E.q2 ?_ | refine E.q4 ?_ | refine E.tr ?_ | refine E.ap (fun _ _ => ?_) | refine E.b1 (fun _ _ => ?_) | refine E.b0 (fun _ _ => ?_) | refine E.bsn (fun _ _ => ?_) | refine E.mk (fun _ _ => ?_) | refine E.bxO (fun _ => ?_) | refine E.al (fun _ => ?_) | refine E.sbO ?_ | refine E.dq ?_ | refine E.ct ?_ | refine E.cf ?_ | refine E.cs (fun hh => ?_) (fun hh => ?_) | refine E.at_block_other rfl ?_)
        exact rn (α := V1 × V1) (⟨.slice none 0 0, rfl⟩, ⟨.slice none 0 0, rfl⟩) (hK := ksv)
      | true =>
        have hgo : G.ok := Gr.ok_iff.2 hgk
        have hGo : ∀ w, RdF w vM G.ns → RdF w vD G.es → Calls Tryz.prog 28 #[.agg #[vM, vD]] w (Ret (fun _ : Unit => .bool true) (fun _ => []) w) := fun w a b => by
          have h0 := c_s_GraphOk w a b
          rw [hgk] at h0
          exact h0
        by_cases hst : storeL G = xs
        · have hN2 : R = some G := by rw [← hR]; exact readL_yes hP2 hgo hst
          subst hN2
          have hSS : ∀ w u', RdF w u' (storeL G) → RdF w v xs → Calls Tryz.prog 123 #[u', v] w (Ret (fun _ : Unit => .bool true) (fun _ => []) w) := fun w u' a b => by
            have h0 := c_s_StoreSame w a b
            rw [decide_eq_true hst] at h0
            exact h0
          repeat' (first | refine E.st ?_ | refine E.ug ?_ | refine E.sk ?_ | refine E.cl (h := fun _ w hw => hGo w (RdF.of_own memO hw) (RdF.of_own memO hw)) (k := ?_) | refine E.cm (h := fun w hw => c_l4Store (g := G) w hgo (RdF.of_own memO hw) (RdF.of_own memO hw)) (k := fun z => ?_) | refine E.cl (h := fun _ w hw => hSS w _ (RdF.of_own memO hw) (hr.now hw)) (k := ?_) | refine E.q3 ?_ | refine E.q ?_ | refine E.qs ?_ | refine E.q2 ?_ | refine E.q4 ?_ | refine E.tr ?_ | refine E.ap (fun _ _ => ?_) | refine E.b1 (fun _ _ => ?_) | refine E.b0 (fun _ _ => ?_) | refine E.bsn (fun _ _ => ?_) | refine E.mk (fun _ _ => ?_) | refine E.bxO (fun _ => ?_) | refine E.al (fun _ => ?_) | refine E.sbO ?_ | refine E.dq ?_ | refine E.ct ?_ | refine E.cf ?_ | refine E.cs (fun hh => ?_) (fun hh => ?_) | refine E.at_block_other rfl ?_)
          exact rn (α := V1 × V1) (⟨vM, hM⟩, ⟨vD, hD⟩) (hK := ksv)
        · have hN2 : R = none := by
            rw [← hR]
            refine readL_no (fun g h _ h2 => ?_)
            rw [hP2] at h
            injection h with h
            subst h
            exact hst h2
          subst hN2
          have hSS : ∀ w u', RdF w u' (storeL G) → RdF w v xs → Calls Tryz.prog 123 #[u', v] w (Ret (fun _ : Unit => .bool false) (fun _ => []) w) := fun w u' a b => by
            have h0 := c_s_StoreSame w a b
            rw [decide_eq_false hst] at h0
            exact h0
          repeat' (first | refine E.st ?_ | refine E.ug ?_ | refine E.sk ?_ | refine E.cl (h := fun _ w hw => hGo w (RdF.of_own memO hw) (RdF.of_own memO hw)) (k := ?_) | refine E.cm (h := fun w hw => c_l4Store (g := G) w hgo (RdF.of_own memO hw) (RdF.of_own memO hw)) (k := fun z => ?_) | refine E.cl (h := fun _ w hw => hSS w _ (RdF.of_own memO hw) (hr.now hw)) (k := ?_) | refine E.q3 ?_ | refine E.q ?_ | refine E.qs ?_ | refine E.q2 ?_ | refine E.q4 ?_ | refine E.tr ?_ | refine E.ap (fun _ _ => ?_) | refine E.b1 (fun _ _ => ?_) | refine E.b0 (fun _ _ => ?_) | refine E.bsn (fun _ _ => ?_) | refine E.mk (fun _ _ => ?_) | refine E.bxO (fun _ => ?_) | refine E.al (fun _ => ?_) | refine E.sbO ?_ | refine E.dq ?_ | refine E.ct ?_ | refine E.cf ?_ | refine E.cs (fun hh => ?_) (fun hh => ?_) | refine E.at_block_other rfl ?_)
          exact rn (α := V1 × V1) (⟨.slice none 0 0, rfl⟩, ⟨.slice none 0 0, rfl⟩) (hK := ksv)
end E
end Go.Proofs.YtpiiapoafmnhhaaGreat
