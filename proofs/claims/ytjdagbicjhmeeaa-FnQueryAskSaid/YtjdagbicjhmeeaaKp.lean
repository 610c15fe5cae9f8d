/- Pools, both sides. -/
import Derived.Test.YtjdagbicjhmeeaaQg
import Derived.Test.YtjdagbicjhmeeaaU
namespace Go.Proofs.Ytjdagbicjhmeeaa
namespace E
open Go Go.RowKit
set_option linter.unusedSimpArgs false
set_option linter.unusedVariables false
set_option maxHeartbeats 1000000
set_option maxRecDepth 10000
attribute [local irreducible] HC HL HQ HX HO At Y YV Opd Opds KnX Sl Ld Src GV RV Calls Code.wp eptr adr RdF ownF OneX HG LdC
theorem take_filter_step {α : Type} {xs : List α} {k : Nat} {x : α} (p : α → Bool) (hx : xs[k]? = some x) : (xs.take (k + 1)).filter p = (xs.take k).filter p ++ if p x = true then [x] else [] := by
  rw [List.take_add_one, hx, List.filter_append]
  by_cases h : p x = true <;> simp [h]
theorem filter_len {α : Type} (p : α → Bool) (xs : List α) (k : Nat) : ((xs.take k).filter p).length ≤ k := by
  have h1 := List.length_filter_le p (xs.take k)
  have h2 := List.length_take_le k xs
  omega
theorem posG_iff {xs : List Pg} {x y : Pg} {k : Nat} (hn : xs.Nodup) (hy : xs[k]? = some y) : (k : Int) = posG xs x ↔ y = x := by
  by_cases hm : x ∈ xs
  · obtain ⟨i, hi⟩ := List.getElem?_of_mem hm
    have hp : posG xs x = i := posG_some hi (fun z hz e => by
      obtain ⟨j, hj, ez⟩ := List.mem_take_iff_getElem.1 hz
      have : xs[j]? = some x := by rw [List.getElem?_eq_getElem (by omega), ez, e]
      have := nd_idx hn this hi
      omega)
    rw [hp]
    constructor
    · intro e
      have : k = i := by omega
      subst this
      rw [hi] at hy; injection hy with hy; exact hy.symm
    · intro e
      subst e
      have := nd_idx hn hy hi
      omega
  · rw [posG_none hm]
    constructor
    · intro h; omega
    · intro e; subst e; exact absurd (List.mem_of_getElem? hy) hm
theorem pre_one {v : Value} {k : Nat} (h : v.oneCell' = true) : (pre v k).oneCell' = true := by cases v <;> first | rfl | exact h
theorem part_one {v : Value} {sz i j : Nat} (h : v.oneCell' = true) : (part v sz i j).oneCell' = true := by cases v <;> first | rfl | exact h
theorem calls_svm {P : Program} {α : Type} [Flat α] {f : FuncId} {args : Array Value} {w : World} {e : TypeId} {xs : List α} {mk : Value → Value} {Kr : List Ck} (h : Calls P f args w (Ret mk (fun v => ownF e v xs :: Kr) w)) :
    Calls P f args w (Ret (fun s : Sv => mk (.slice s.a s.n s.c)) (fun s => ownF e (.slice s.a s.n s.c) xs :: Kr) w) := h.mono fun en w' ⟨v, he, hk⟩ => by
  obtain ⟨s, rfl⟩ := ownF_sv (List.mem_cons_self) hk
  exact ⟨s, he, hk⟩
theorem c_l5Use {z : Int} {A : Option Addr} {n c : Nat} {xs : List Pg} {l a : Int} (w : World) (hn : xs.Nodup) (hz : 0 ≤ z ∧ z ≤ 1048576) (hr : RdF w (.slice A n c) xs := by exact rdA) (hx : xs.length ≤ 1048576 := by omega) :
    Calls Try.prog 148 #[.agg #[.int .i64 z, .slice A n c], .agg #[.int .i64 l, .int .i64 a]] w (Ret (fun s : Sv => .tuple #[.agg #[.int .i64 z, .slice s.a s.n s.c], .bool (decide ((⟨l, a⟩ : Pg) ∈ xs))]) (fun s => [ownF 192 (.slice s.a s.n s.c) (useP ⟨z, xs⟩ ⟨l, a⟩).l]) w) := by
  refine calls_svm (mk := fun v => .tuple #[.agg #[.int .i64 z, v], .bool (decide ((⟨l, a⟩ : Pg) ∈ xs))]) (Kr := []) ?_
  refine enter (args := _) Try.func148 rfl Try.ntmps148 (by simp) ?_
  repeat' (first | refine E.st ?_ | refine E.cl (h := fun _ w _ => c_l5At w) (k := ?_)  | refine E.q3 ?_ | refine E.q ?_ | refine E.qs ?_ | refine E.q2 ?_ | refine E.q4 ?_ | refine E.tr ?_ | refine E.ap (fun _ _ => ?_) | refine E.b1 (fun _ _ => ?_) | refine E.b0 (fun _ _ => ?_) | refine E.bsn (fun _ _ => ?_) | refine E.mk (fun _ _ => ?_) | refine E.bxO (fun _ => ?_) | refine E.al (fun _ => ?_) | refine E.sbO ?_ | refine E.dq ?_ | refine E.ct ?_ | refine E.cf ?_ | refine E.cs (fun hh => ?_) (fun hh => ?_) | refine E.at_block_other rfl ?_)
  rename_i v1 h1
  refine lq (fun p : Nat × Value => p.1 ≤ xs.length ∧ p.2.oneCell' = true) (fun p => [(6, .pl p.2), (8, .pl (.int .i64 (p.1 : Int)))]) (fun p => [ownF 192 p.2 ((⟨l, a⟩ : Pg) :: (xs.take p.1).filter (fun y => !decide (y = ⟨l, a⟩)))]) (fun p => xs.length - p.1) (0, v1) ⟨Nat.zero_le _, h1⟩ (fun p hp => ?_) (hK := Spl.ownF pk (by simp) (Spl.nil _))
  obtain ⟨k, v⟩ := p
  obtain ⟨hk, hv⟩ := hp
  dsimp only at hk hv ⊢
  have hfl := filter_len (fun y => !decide (y = (⟨l, a⟩ : Pg))) xs k
  rcases Nat.lt_or_ge k xs.length with hlt | hge
  · obtain ⟨y, hy⟩ := get_lt hlt
    have hst := take_filter_step (fun y => !decide (y = (⟨l, a⟩ : Pg))) hy
    have hpi := posG_iff (x := ⟨l, a⟩) hn hy
    repeat' (first | refine E.st ?_ | refine E.q3 ?_ | refine E.q ?_ | refine E.qs ?_ | refine E.q2 ?_ | refine E.q4 ?_ | refine E.tr ?_ | refine E.ap (fun _ _ => ?_) | refine E.b1 (fun _ _ => ?_) | refine E.b0 (fun _ _ => ?_) | refine E.bsn (fun _ _ => ?_) | refine E.mk (fun _ _ => ?_) | refine E.bxO (fun _ => ?_) | refine E.al (fun _ => ?_) | refine E.sbO ?_ | refine E.dq ?_ | refine E.ct ?_ | refine E.cf ?_ | refine E.cs (fun hh => ?_) (fun hh => ?_) | refine E.at_block_other rfl ?_)
    · rename_i v2 h2
      refine rd (k + 1, v2) ⟨by dsimp only; omega, h2⟩ (hK := KSub.ownF pk ?_ ks)
      have : ¬ y = ⟨l, a⟩ := fun e => hh (hpi.2 e)
      rw [hst, if_pos (by simpa using this)]
      rfl
    · refine rd (k + 1, v) ⟨by dsimp only; omega, hv⟩ (hK := KSub.ownF pk ?_ ks)
      have : y = ⟨l, a⟩ := hpi.1 hh
      rw [hst, if_neg (by simpa using this)]
      simp
  · rw [List.take_of_length_le hge] at hfl ⊢
    have hd : decide (0 ≤ posG xs ⟨l, a⟩) = decide ((⟨l, a⟩ : Pg) ∈ xs) := by rw [decide_eq_decide]; exact posG_neg
    have hpo := pre_one (k := z.toNat) hv
    repeat' (first | refine E.st ?_ | refine E.spre ?_ | refine E.q3 ?_ | refine E.q ?_ | refine E.qs ?_ | refine E.q2 ?_ | refine E.q4 ?_ | refine E.tr ?_ | refine E.ap (fun _ _ => ?_) | refine E.b1 (fun _ _ => ?_) | refine E.b0 (fun _ _ => ?_) | refine E.bsn (fun _ _ => ?_) | refine E.mk (fun _ _ => ?_) | refine E.bxO (fun _ => ?_) | refine E.al (fun _ => ?_) | refine E.sbO ?_ | refine E.dq ?_ | refine E.ct ?_ | refine E.cf ?_ | refine E.cs (fun hh => ?_) (fun hh => ?_) | refine E.at_block_other rfl ?_)
    · refine rn (pre v z.toNat) (hv := by rw [← hd]) (hK := KSub.ownF pk ?_ (KSub.nil _))
      rfl
    · refine rn v (hv := by rw [← hd]) (hK := KSub.ownF pk ?_ (KSub.nil _))
      simp only [useP]
      rw [List.take_of_length_le (by simp only [List.length_cons] at *; omega)]
end E
end Go.Proofs.Ytjdagbicjhmeeaa
