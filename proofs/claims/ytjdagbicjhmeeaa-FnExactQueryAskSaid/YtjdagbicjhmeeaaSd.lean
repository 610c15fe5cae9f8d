/- slices.Compact at the program's nodes: walked. -/
import Derived.Test.YtjdagbicjhmeeaaSz
namespace Go.Proofs.Ytjdagbicjhmeeaa
namespace E
open Go Go.RowKit
set_option linter.unusedSimpArgs false
set_option linter.unusedVariables false
set_option maxHeartbeats 1000000
set_option maxRecDepth 10000
attribute [local irreducible] HC HL HQ HX HO At Y YV Opd Opds KnX Sl Ld Src GV RV Calls Code.wp eptr adr RdF ownF OneX HG LdC
theorem c_compact {v : Value} {xs : List Nd} {w0 : World} {K : List Ck} (w : World) (hw : KOk w0 (ownF 29 v xs :: K) w) (hl : xs.length ≤ 1000) :
    Calls Try.prog 73 #[v] w (RetK (fun z : { v' : Value // v'.oneCell' = true } => z.1) (fun z => ownF 29 z.1 (compU xs xs.length) :: K) w0) := by
  have ho : v.oneCell' = true := (RdF.of_own (List.mem_cons_self) hw : RdF w v xs).one
  have hop : ∀ k, (pre v k).oneCell' = true := fun k => by
    cases v <;> first | rfl | exact ho
  rcases Nat.lt_or_ge xs.length 2 with h2 | h2
  · have hc : compU xs xs.length = xs := by
      rw [compU_all (Nat.le_refl _) (fun j hj => ?_), List.take_length]
      unfold keepB
      have : j = 0 ∨ j = 1 := by omega
      rcases this with rfl | rfl
      · rfl
      · omega
    rw [hc]
    refine enterK (args := _) hw Try.func73 rfl Try.ntmps73 (by simp) ?_
    repeat' (first | refine E.st ?_ | refine E.q3 ?_ | refine E.q ?_ | refine E.qs ?_ | refine E.q2 ?_ | refine E.q4 ?_ | refine E.tr ?_ | refine E.ap (fun _ _ => ?_) | refine E.b1 (fun _ _ => ?_) | refine E.b0 (fun _ _ => ?_) | refine E.bsn (fun _ _ => ?_) | refine E.mk (fun _ _ => ?_) | refine E.bxO (fun _ => ?_) | refine E.al (fun _ => ?_) | refine E.sbO ?_ | refine E.dq ?_ | refine E.ct ?_ | refine E.cf ?_ | refine E.cs (fun hh => ?_) (fun hh => ?_) | refine E.at_block_other rfl ?_)
    exact r1K (α := { v' : Value // v'.oneCell' = true }) ⟨v, ho⟩
  · refine enterK (args := _) hw Try.func73 rfl Try.ntmps73 (by simp) ?_
    repeat' (first | refine E.st ?_ | refine E.q3 ?_ | refine E.q ?_ | refine E.qs ?_ | refine E.q2 ?_ | refine E.q4 ?_ | refine E.tr ?_ | refine E.ap (fun _ _ => ?_) | refine E.b1 (fun _ _ => ?_) | refine E.b0 (fun _ _ => ?_) | refine E.bsn (fun _ _ => ?_) | refine E.mk (fun _ _ => ?_) | refine E.bxO (fun _ => ?_) | refine E.al (fun _ => ?_) | refine E.sbO ?_ | refine E.dq ?_ | refine E.ct ?_ | refine E.cf ?_ | refine E.cs (fun hh => ?_) (fun hh => ?_) | refine E.at_block_other rfl ?_)
    have hk0 : ∀ j, j < 1 → keepB xs j = true := fun j hj => by
      have : j = 0 := by omega
      subst this; rfl
    refine lq (fun k : Nat => 1 ≤ k ∧ k ≤ xs.length ∧ ∀ j, j < k → keepB xs j = true) (fun k => [(3, .pl (.int .i64 (k : Int)))]) (fun k => ([] : List Ck)) (fun k => xs.length - k) 1 ⟨Nat.le_refl _, by omega, hk0⟩ (fun k hk => ?_)
    obtain ⟨hk1, hk2, hall⟩ := hk
    skip
    rcases Nat.lt_or_ge k xs.length with hlt | hge
    · obtain ⟨⟨xl, xn⟩, hx⟩ := get_lt hlt
      obtain ⟨⟨yl, yn⟩, hy⟩ := get_lt (show k - 1 < xs.length by omega)
      have hkb := keepB_iff hk1 hx hy
      have hy' : xs[((k : Int) - 1).toNat]? = some ⟨yl, yn⟩ := by rw [show ((k : Int) - 1).toNat = k - 1 from by omega]; exact hy
      have heq : decide ([xl, xn] = [yl, yn]) = decide ((⟨xl, xn⟩ : Nd) = ⟨yl, yn⟩) := by simp
      cases hkv : keepB xs k with
      | true =>
        rw [hkv] at hkb
        have hd : decide ((⟨xl, xn⟩ : Nd) = ⟨yl, yn⟩) = false := by cases h : decide ((⟨xl, xn⟩ : Nd) = ⟨yl, yn⟩) <;> simp_all
        repeat' (first | refine E.st ?_ | refine E.q3 ?_ | refine E.q ?_ | refine E.qs ?_ | refine E.q2 ?_ | refine E.q4 ?_ | refine E.tr ?_ | refine E.ap (fun _ _ => ?_) | refine E.b1 (fun _ _ => ?_) | refine E.b0 (fun _ _ => ?_) | refine E.bsn (fun _ _ => ?_) | refine E.mk (fun _ _ => ?_) | refine E.bxO (fun _ => ?_) | refine E.al (fun _ => ?_) | refine E.sbO ?_ | refine E.dq ?_ | refine E.ct ?_ | refine E.cf ?_ | refine E.cs (fun hh => ?_) (fun hh => ?_) | refine E.at_block_other rfl ?_)
        · exfalso; simp_all
        · exact rd (k + 1) ⟨by omega, by omega, fun j hj => by
            rcases Nat.lt_or_ge j k with h | h
            · exact hall j h
            · have : j = k := by omega
              subst this; exact hkv⟩
      | false =>
        have hz : Nd := ⟨0, 0⟩
        have hst : Cmp2 xs xs (k + 1) k := ⟨rfl, fun _ _ => rfl, by rw [compU_succ hx, hkv, compU_all (by omega) hall]; simp, Nat.le_refl _⟩
        repeat' (first | refine E.st ?_ | refine E.q3 ?_ | refine E.q ?_ | refine E.qs ?_ | refine E.q2 ?_ | refine E.q4 ?_ | refine E.tr ?_ | refine E.ap (fun _ _ => ?_) | refine E.b1 (fun _ _ => ?_) | refine E.b0 (fun _ _ => ?_) | refine E.bsn (fun _ _ => ?_) | refine E.mk (fun _ _ => ?_) | refine E.bxO (fun _ => ?_) | refine E.al (fun _ => ?_) | refine E.sbO ?_ | refine E.dq ?_ | refine E.ct ?_ | refine E.cf ?_ | refine E.cs (fun hh => ?_) (fun hh => ?_) | refine E.at_block_other rfl ?_)
        · refine lq (fun p : Nat × Nat × List Nd => 1 ≤ p.1 ∧ k + p.1 ≤ xs.length ∧ Cmp2 xs p.2.2 (k + p.1) p.2.1) (fun p => [(5, .pl (.int .i64 (p.1 : Int))), (3, .pl (.int .i64 (p.2.1 : Int)))]) (fun p => [ownF 29 v p.2.2]) (fun p => xs.length - p.1) (1, k, xs) ⟨Nat.le_refl _, by omega, hst⟩ (fun p hp => ?_)
          obtain ⟨k2, kk, ys⟩ := p
          obtain ⟨h1, h3, hC⟩ := hp
          dsimp only at h1 h3 hC ⊢
          have hyl := hC.len
          have hkk := hC.kl h3
          have hclt := hC.lt
          have hs2 : RdIn w0 [ownF 29 v ys] (E.part v 2 k xs.length) (ys.drop k) := RdIn.partO hyl (by omega)
          have hdl : (ys.drop k).length = xs.length - k := by rw [List.length_drop, hyl]
          rcases Nat.lt_or_ge (k + k2) xs.length with hlt2 | hge2
          · obtain ⟨⟨ul, un⟩, hu⟩ := get_lt hlt2
            obtain ⟨⟨tl, tn⟩, ht⟩ := get_lt (show k + k2 - 1 < xs.length by omega)
            obtain ⟨⟨al, an⟩, ha⟩ := get_lt hkk
            have hkb2 := keepB_iff (by omega) hu ht
            have hu' : (ys.drop k)[k2]? = some ⟨ul, un⟩ := by rw [List.getElem?_drop, hC.hi _ (by omega)]; exact hu
            have ht' : (ys.drop k)[((k2 : Int) - 1).toNat]? = some ⟨tl, tn⟩ := by rw [List.getElem?_drop, hC.hi _ (by omega), show k + ((k2 : Int) - 1).toNat = k + k2 - 1 from by omega]; exact ht
            cases hkv2 : keepB xs (k + k2) with
            | true =>
              rw [hkv2] at hkb2
              have hd2 : decide ((⟨ul, un⟩ : Nd) = ⟨tl, tn⟩) = false := by cases h : decide ((⟨ul, un⟩ : Nd) = ⟨tl, tn⟩) <;> simp_all
              repeat' (first | refine E.st ?_ | refine E.q3 ?_ | refine E.q ?_ | refine E.qs ?_ | refine E.q2 ?_ | refine E.q4 ?_ | refine E.tr ?_ | refine E.ap (fun _ _ => ?_) | refine E.b1 (fun _ _ => ?_) | refine E.b0 (fun _ _ => ?_) | refine E.bsn (fun _ _ => ?_) | refine E.mk (fun _ _ => ?_) | refine E.bxO (fun _ => ?_) | refine E.al (fun _ => ?_) | refine E.sbO ?_ | refine E.dq ?_ | refine E.ct ?_ | refine E.cf ?_ | refine E.cs (fun hh => ?_) (fun hh => ?_) | refine E.at_block_other rfl ?_)
              · exact rd (α := Nat × Nat × List Nd) (k2 + 1, kk + 1, ys.set kk ⟨ul, un⟩) ⟨by dsimp only; omega, by dsimp only; omega, hC.keep hlt2 hu hkv2⟩
              · exfalso; simp_all
            | false =>
              rw [hkv2] at hkb2
              have hut : (⟨ul, un⟩ : Nd) = ⟨tl, tn⟩ := by
                cases h : decide ((⟨ul, un⟩ : Nd) = ⟨tl, tn⟩) with
                | true => exact of_decide_eq_true h
                | false => rw [h] at hkb2; cases hkb2
              injection hut with e1 e2
              subst e1 e2
              repeat' (first | refine E.st ?_ | refine E.q3 ?_ | refine E.q ?_ | refine E.qs ?_ | refine E.q2 ?_ | refine E.q4 ?_ | refine E.tr ?_ | refine E.ap (fun _ _ => ?_) | refine E.b1 (fun _ _ => ?_) | refine E.b0 (fun _ _ => ?_) | refine E.bsn (fun _ _ => ?_) | refine E.mk (fun _ _ => ?_) | refine E.bxO (fun _ => ?_) | refine E.al (fun _ => ?_) | refine E.sbO ?_ | refine E.dq ?_ | refine E.ct ?_ | refine E.cf ?_ | refine E.cs (fun hh => ?_) (fun hh => ?_) | refine E.at_block_other rfl ?_)
              · exfalso; simp at hh
              · exact rd (α := Nat × Nat × List Nd) (k2 + 1, kk, ys) ⟨by dsimp only; omega, by dsimp only; omega, hC.skip hlt2 hkv2⟩
          · have hmn : k + k2 = xs.length := by omega
            have hlo := hC.lo
            rw [hmn] at hlo
            repeat' (first | refine E.st ?_ | refine E.clr (fun R hR1 hR2 => ?_) | refine E.q3 ?_ | refine E.q ?_ | refine E.qs ?_ | refine E.q2 ?_ | refine E.q4 ?_ | refine E.tr ?_ | refine E.ap (fun _ _ => ?_) | refine E.b1 (fun _ _ => ?_) | refine E.b0 (fun _ _ => ?_) | refine E.bsn (fun _ _ => ?_) | refine E.mk (fun _ _ => ?_) | refine E.bxO (fun _ => ?_) | refine E.al (fun _ => ?_) | refine E.sbO ?_ | refine E.dq ?_ | refine E.ct ?_ | refine E.cf ?_ | refine E.cs (fun hh => ?_) (fun hh => ?_) | refine E.at_block_other rfl ?_)
            refine at_shrink (xs := R) (e := 29) (v := v) (k := kk) (by omega) ?_
            rw [hR2, hlo]
            exact r1K (α := { v' : Value // v'.oneCell' = true }) ⟨_, hop _⟩
        · exfalso; simp_all
    · repeat' (first | refine E.st ?_ | refine E.q3 ?_ | refine E.q ?_ | refine E.qs ?_ | refine E.q2 ?_ | refine E.q4 ?_ | refine E.tr ?_ | refine E.ap (fun _ _ => ?_) | refine E.b1 (fun _ _ => ?_) | refine E.b0 (fun _ _ => ?_) | refine E.bsn (fun _ _ => ?_) | refine E.mk (fun _ _ => ?_) | refine E.bxO (fun _ => ?_) | refine E.al (fun _ => ?_) | refine E.sbO ?_ | refine E.dq ?_ | refine E.ct ?_ | refine E.cf ?_ | refine E.cs (fun hh => ?_) (fun hh => ?_) | refine E.at_block_other rfl ?_)
      rw [compU_all (Nat.le_refl _) (fun j hj => hall j (by omega)), List.take_length]
      exact r1K (α := { v' : Value // v'.oneCell' = true }) ⟨v, ho⟩
end E
end Go.Proofs.Ytjdagbicjhmeeaa
