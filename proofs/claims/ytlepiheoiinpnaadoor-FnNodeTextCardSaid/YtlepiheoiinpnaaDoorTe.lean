/- Labels and pieces read out of texts: both sides. -/
import Derived.Test.YtlepiheoiinpnaaDoorTd
namespace Go.Proofs.YtlepiheoiinpnaaDoor
namespace E
open Go Go.RowKit
set_option linter.unusedSimpArgs false
set_option linter.unusedVariables false
set_option maxHeartbeats 1000000
set_option maxRecDepth 10000
attribute [local irreducible] HC HL HQ HX HO At Y YV Opd Opds KnX Sl Ld Src GV RV Calls Code.wp eptr adr RdF ownF OneX HG LdC
theorem tx_get {l : List UInt8} {k : Nat} {b : UInt8} (h : l[k]? = some b) : (tx l)[((k : Nat) : Int).toNat]? = some b := by
  have hk := (List.getElem?_eq_some_iff.1 h)
  obtain ⟨h1, h2⟩ := hk
  rw [Int.toNat_natCast]
  have h3 : k < (tx l).size := h1
  rw [getElem?_pos (tx l) k h3]
  congr 1
theorem tx_extract (l : List UInt8) (m n : Nat) : (tx l).extract m n = tx ((l.take n).drop m) := by
  have h : ((tx l).extract m n).data = (tx ((l.take n).drop m)).data := by
    rw [ByteArray.data_extract]
    apply Array.toList_inj.1
    simp [tx, List.extract_eq_take_drop, List.drop_take]
  generalize (tx l).extract m n = u at h ⊢
  cases u
  simp only at h
  rw [h]
section
variable {N : Nat} {w0 : World} {K : List Ck} {F : List (Nat × En)} {c : Bool} {dd : Option Tmp} {ty : TypeId} {pos : String} {af : Array Edge} {gd : Option (Nat × Bool)} {x ix jx : Operand} {t t' : TypeId} {i j : Int} {p : Value}
theorem a_str_sub {s : ByteArray} {kd kd' : IntKind} {m n : Nat} [T : TStr Tryd.prog t] (h : Opd N F c x (.string s) := by first | exact Opd.pl rfl | exact Opd.gd rfl (fun h => h)) (hi : Opd N F c ix (.int kd i) := by first | exact Opd.pl rfl | exact Opd.gd rfl (fun h => h)) (hj : Opd N F c jx (.int kd' j) := by first | exact Opd.pl rfl | exact Opd.gd rfl (fun h => h)) (hk : c = true → i = (m : Int) ∧ j = (n : Int) ∧ m ≤ n ∧ n ≤ s.size := by first | exact (fun _ => ⟨rfl, rfl, by omega, by omega⟩)) : YV Tryd.prog N w0 K F c ⟨dd, .slice t x (some ix) (some jx) none, ty, pos, af, gd⟩ (.string (s.extract m n)) := by
  unfold YV Opd at *
  intro a w ha hc hw
  obtain ⟨rfl, rfl, hl, hl'⟩ := hk hc
  simp [execOp, h a ha hc, hi a ha hc, hj a ha hc, Instr.sliceAt, Instr.slice, Instr.sliceBounds, Instr.sliceBound, asIntOf, run_underlying T.is, hl, hl']
end
/-! ### Labels -/
theorem c_i_LabelRead {s : List UInt8} (w : World) (hg : Glb w := by exact glA) : Calls Tryd.prog 24 #[.string (tx s)] w (Ret (fun z : { p : Nat × Bool // LabP s p.1 p.2 } => .tuple #[.int .i64 (z.1.1 : Int), .bool z.1.2]) (fun _ => []) w) := by
  refine enter (args := _) Tryd.func24 rfl Tryd.ntmps24 (by simp) ?_
  repeat' (first | refine E.st ?_ | refine E.q3 ?_ | refine E.q ?_ | refine E.qs ?_ | refine E.q2 ?_ | refine E.q4 ?_ | refine E.tr ?_ | refine E.ap (fun _ _ => ?_) | refine E.b1 (fun _ _ => ?_) | refine E.b0 (fun _ _ => ?_) | refine E.bsn (fun _ _ => ?_) | refine E.mk (fun _ _ => ?_) | refine E.bxO (fun _ => ?_) | refine E.al (fun _ => ?_) | refine E.sbO ?_ | refine E.dq ?_ | refine E.ct ?_ | refine E.cf ?_ | refine E.cs (fun hh => ?_) (fun hh => ?_) | refine E.at_block_other rfl ?_)
  refine lq (fun k : Nat => k ≤ 8 ∧ ∀ j, j < k → lbt[j]? ≠ some s) (fun k => [(5, .pl (.int .i64 (k : Int)))]) (fun _ => []) (fun k => 8 - k) 0 ⟨by omega, fun j hj => absurd hj (Nat.not_lt_zero j)⟩ (fun k hk => ?_)
  obtain ⟨hk8, hno⟩ := hk
  rcases Nat.lt_or_ge k 8 with hlt | hge
  · obtain ⟨x, hx⟩ : ∃ x, lbt[k]? = some x := ⟨_, List.getElem?_eq_getElem hlt⟩
    by_cases hxs : x = s
    · subst hxs
      repeat' (first | refine E.st ?_ | refine E.q7 ?_ | refine E.q3 ?_ | refine E.q ?_ | refine E.qs ?_ | refine E.q2 ?_ | refine E.q4 ?_ | refine E.tr ?_ | refine E.ap (fun _ _ => ?_) | refine E.b1 (fun _ _ => ?_) | refine E.b0 (fun _ _ => ?_) | refine E.bsn (fun _ _ => ?_) | refine E.mk (fun _ _ => ?_) | refine E.bxO (fun _ => ?_) | refine E.al (fun _ => ?_) | refine E.sbO ?_ | refine E.dq ?_ | refine E.ct ?_ | refine E.cf ?_ | refine E.cs (fun hh => ?_) (fun hh => ?_) | refine E.at_block_other rfl ?_)
      all_goals first
        | exact rn (α := { p : Nat × Bool // LabP x p.1 p.2 }) ⟨(k, true), fun _ => hx, fun h => Bool.noConfusion h⟩
        | (exfalso; simp_all; done)
    · have hxt : ¬ tx x = tx s := fun h => hxs (tx_inj.1 h)
      repeat' (first | refine E.st ?_ | refine E.q7 ?_ | refine E.q3 ?_ | refine E.q ?_ | refine E.qs ?_ | refine E.q2 ?_ | refine E.q4 ?_ | refine E.tr ?_ | refine E.ap (fun _ _ => ?_) | refine E.b1 (fun _ _ => ?_) | refine E.b0 (fun _ _ => ?_) | refine E.bsn (fun _ _ => ?_) | refine E.mk (fun _ _ => ?_) | refine E.bxO (fun _ => ?_) | refine E.al (fun _ => ?_) | refine E.sbO ?_ | refine E.dq ?_ | refine E.ct ?_ | refine E.cf ?_ | refine E.cs (fun hh => ?_) (fun hh => ?_) | refine E.at_block_other rfl ?_)
      all_goals first
        | (refine rd (k + 1) ⟨by omega, fun j hj => ?_⟩
           rcases Nat.lt_or_ge j k with h | h
           · exact hno j h
           · have : j = k := by omega
             subst this
             rw [hx]
             intro h
             exact hxs (Option.some.inj h))
        | (exfalso; simp_all; done)
  · have : k = 8 := by omega
    subst this
    repeat' (first | refine E.st ?_ | refine E.q3 ?_ | refine E.q ?_ | refine E.qs ?_ | refine E.q2 ?_ | refine E.q4 ?_ | refine E.tr ?_ | refine E.ap (fun _ _ => ?_) | refine E.b1 (fun _ _ => ?_) | refine E.b0 (fun _ _ => ?_) | refine E.bsn (fun _ _ => ?_) | refine E.mk (fun _ _ => ?_) | refine E.bxO (fun _ => ?_) | refine E.al (fun _ => ?_) | refine E.sbO ?_ | refine E.dq ?_ | refine E.ct ?_ | refine E.cf ?_ | refine E.cs (fun hh => ?_) (fun hh => ?_) | refine E.at_block_other rfl ?_)
    refine rn (α := { p : Nat × Bool // LabP s p.1 p.2 }) ⟨(0, false), fun h => Bool.noConfusion h, fun _ => ⟨rfl, fun hm => ?_⟩⟩
    obtain ⟨j, hj⟩ := List.getElem?_of_mem hm
    exact hno j (List.getElem?_eq_some_iff.1 hj).1 hj
theorem c_s_LabelRead {s : List UInt8} (w : World) : Calls Tryd.prog 21 #[.string (tx s)] w (Ret (fun z : { p : Nat × Bool // LabP s p.1 p.2 } => .tuple #[.int .i64 (z.1.1 : Int), .bool z.1.2]) (fun _ => []) w) := by
  refine enter (args := _) Tryd.func21 rfl Tryd.ntmps21 (by simp) ?_
  repeat' (first | refine E.st ?_ | refine E.q3 ?_ | refine E.q ?_ | refine E.qs ?_ | refine E.q2 ?_ | refine E.q4 ?_ | refine E.tr ?_ | refine E.ap (fun _ _ => ?_) | refine E.b1 (fun _ _ => ?_) | refine E.b0 (fun _ _ => ?_) | refine E.bsn (fun _ _ => ?_) | refine E.mk (fun _ _ => ?_) | refine E.bxO (fun _ => ?_) | refine E.al (fun _ => ?_) | refine E.sbO ?_ | refine E.dq ?_ | refine E.ct ?_ | refine E.cf ?_ | refine E.cs (fun hh => ?_) (fun hh => ?_) | refine E.at_block_other rfl ?_)
  refine lq (fun k : Nat => k ≤ 8 ∧ ∀ j, j < k → lbt[j]? ≠ some s) (fun k => [(4, .pl (.int .i64 (k : Int)))]) (fun _ => []) (fun k => 8 - k) 0 ⟨by omega, fun j hj => absurd hj (Nat.not_lt_zero j)⟩ (fun k hk => ?_)
  obtain ⟨hk8, hno⟩ := hk
  rcases Nat.lt_or_ge k 8 with hlt | hge
  · obtain ⟨x, hx⟩ : ∃ x, lbt[k]? = some x := ⟨_, List.getElem?_eq_getElem hlt⟩
    by_cases hxs : x = s
    · subst hxs
      repeat' (first | refine E.st ?_ | refine E.cl (h := fun _ w _ => c_s_LabelText w hx) (k := ?_) | refine E.q3 ?_ | refine E.q ?_ | refine E.qs ?_ | refine E.q2 ?_ | refine E.q4 ?_ | refine E.tr ?_ | refine E.ap (fun _ _ => ?_) | refine E.b1 (fun _ _ => ?_) | refine E.b0 (fun _ _ => ?_) | refine E.bsn (fun _ _ => ?_) | refine E.mk (fun _ _ => ?_) | refine E.bxO (fun _ => ?_) | refine E.al (fun _ => ?_) | refine E.sbO ?_ | refine E.dq ?_ | refine E.ct ?_ | refine E.cf ?_ | refine E.cs (fun hh => ?_) (fun hh => ?_) | refine E.at_block_other rfl ?_)
      all_goals first
        | exact rn (α := { p : Nat × Bool // LabP x p.1 p.2 }) ⟨(k, true), fun _ => hx, fun h => Bool.noConfusion h⟩
        | (exfalso; simp_all; done)
    · have hxt : ¬ tx x = tx s := fun h => hxs (tx_inj.1 h)
      repeat' (first | refine E.st ?_ | refine E.cl (h := fun _ w _ => c_s_LabelText w hx) (k := ?_) | refine E.q3 ?_ | refine E.q ?_ | refine E.qs ?_ | refine E.q2 ?_ | refine E.q4 ?_ | refine E.tr ?_ | refine E.ap (fun _ _ => ?_) | refine E.b1 (fun _ _ => ?_) | refine E.b0 (fun _ _ => ?_) | refine E.bsn (fun _ _ => ?_) | refine E.mk (fun _ _ => ?_) | refine E.bxO (fun _ => ?_) | refine E.al (fun _ => ?_) | refine E.sbO ?_ | refine E.dq ?_ | refine E.ct ?_ | refine E.cf ?_ | refine E.cs (fun hh => ?_) (fun hh => ?_) | refine E.at_block_other rfl ?_)
      all_goals first
        | (refine rd (k + 1) ⟨by omega, fun j hj => ?_⟩
           rcases Nat.lt_or_ge j k with h | h
           · exact hno j h
           · have : j = k := by omega
             subst this
             rw [hx]
             intro h
             exact hxs (Option.some.inj h))
        | (exfalso; simp_all; done)
  · have : k = 8 := by omega
    subst this
    repeat' (first | refine E.st ?_ | refine E.q3 ?_ | refine E.q ?_ | refine E.qs ?_ | refine E.q2 ?_ | refine E.q4 ?_ | refine E.tr ?_ | refine E.ap (fun _ _ => ?_) | refine E.b1 (fun _ _ => ?_) | refine E.b0 (fun _ _ => ?_) | refine E.bsn (fun _ _ => ?_) | refine E.mk (fun _ _ => ?_) | refine E.bxO (fun _ => ?_) | refine E.al (fun _ => ?_) | refine E.sbO ?_ | refine E.dq ?_ | refine E.ct ?_ | refine E.cf ?_ | refine E.cs (fun hh => ?_) (fun hh => ?_) | refine E.at_block_other rfl ?_)
    refine rn (α := { p : Nat × Bool // LabP s p.1 p.2 }) ⟨(0, false), fun h => Bool.noConfusion h, fun _ => ⟨rfl, fun hm => ?_⟩⟩
    obtain ⟨j, hj⟩ := List.getElem?_of_mem hm
    exact hno j (List.getElem?_eq_some_iff.1 hj).1 hj
/-! ### Cut -/
theorem idx_yes : ∀ {a r : List UInt8}, 46 ∉ a → Lib.indexByte (a ++ 46 :: r) 46 = (a.length : Int)
  | [], r, _ => by simp [Lib.indexByte]
  | x :: a, r, h => by
    have hx : (x == 46) = false := beq_false_of_ne (fun e => h (by rw [e]; exact List.mem_cons_self))
    have ih := idx_yes (a := a) (r := r) (fun hm => h (List.mem_cons_of_mem _ hm))
    have hne : ((a.length : Int) == -1) = false := beq_false_of_ne (by omega)
    simp only [List.cons_append, Lib.indexByte, hx, Bool.false_eq_true, if_false, ih, hne, List.length_cons]
    omega
theorem idx_no : ∀ {a : List UInt8}, 46 ∉ a → Lib.indexByte a 46 = -1
  | [], _ => rfl
  | x :: a, h => by
    have hx : (x == 46) = false := beq_false_of_ne (fun e => h (by rw [e]; exact List.mem_cons_self))
    have ih := idx_no (a := a) (fun hm => h (List.mem_cons_of_mem _ hm))
    simp [Lib.indexByte, hx, ih]
theorem dot_cases (s : List UInt8) : 46 ∉ s ∨ ∃ a r, 46 ∉ a ∧ s = a ++ 46 :: r := by
  induction s with
  | nil => exact .inl (by simp)
  | cons x s ih =>
    by_cases hx : x = 46
    · exact .inr ⟨[], s, by simp, by rw [hx]; rfl⟩
    · rcases ih with h | ⟨a, r, h1, h2⟩
      · refine .inl (fun hm => ?_)
        rcases List.mem_cons.1 hm with h' | h'
        · exact hx h'.symm
        · exact h h'
      · refine .inr ⟨x :: a, r, fun hm => ?_, by rw [h2]; rfl⟩
        rcases List.mem_cons.1 hm with h' | h'
        · exact hx h'.symm
        · exact h1 h'
theorem c_Index {s : List UInt8} (w : World) : Calls Tryd.prog 42 #[.string (tx s), .string ⟨#[46]⟩] w (Ret (fun _ : Unit => .int .i64 (Lib.indexByte s 46)) (fun _ => []) w) :=
  (Tryd.stringslite_Index_one (tx s) 46 w).mono fun e W' h => by
    obtain ⟨rfl, rfl⟩ := h
    exact ⟨(), rfl, KOk.start _⟩
theorem c_Cut_no {s : List UInt8} (w : World) (h : 46 ∉ s) : Calls Tryd.prog 23 #[.string (tx s), .string ⟨#[46]⟩] w (Ret (fun _ : Unit => .tuple #[.string (tx s), .string ⟨#[]⟩, .bool false]) (fun _ => []) w) := by
  have hi := idx_no h
  have c_C : ∀ w, Calls Tryd.prog 35 #[.string (tx s), .string ⟨#[46]⟩] w (Ret (fun _ : Unit => .tuple #[.string (tx s), .string ⟨#[]⟩, .bool false]) (fun _ => []) w) := fun w => by
    refine enter (args := _) Tryd.func35 rfl Tryd.ntmps35 (by simp) ?_
    repeat' (first | refine E.st ?_ | refine E.cl (h := fun _ w _ => c_Index w) (k := ?_)  | refine E.q3 ?_ | refine E.q ?_ | refine E.qs ?_ | refine E.q2 ?_ | refine E.q4 ?_ | refine E.tr ?_ | refine E.ap (fun _ _ => ?_) | refine E.b1 (fun _ _ => ?_) | refine E.b0 (fun _ _ => ?_) | refine E.bsn (fun _ _ => ?_) | refine E.mk (fun _ _ => ?_) | refine E.bxO (fun _ => ?_) | refine E.al (fun _ => ?_) | refine E.sbO ?_ | refine E.dq ?_ | refine E.ct ?_ | refine E.cf ?_ | refine E.cs (fun hh => ?_) (fun hh => ?_) | refine E.at_block_other rfl ?_)
    all_goals first
      | exact rn ()
      | (exfalso; omega)
  refine enter (args := _) Tryd.func23 rfl Tryd.ntmps23 (by simp) ?_
  repeat' (first | refine E.st ?_ | refine E.cl (h := fun _ w _ => c_C w) (k := ?_)  | refine E.q3 ?_ | refine E.q ?_ | refine E.qs ?_ | refine E.q2 ?_ | refine E.q4 ?_ | refine E.tr ?_ | refine E.ap (fun _ _ => ?_) | refine E.b1 (fun _ _ => ?_) | refine E.b0 (fun _ _ => ?_) | refine E.bsn (fun _ _ => ?_) | refine E.mk (fun _ _ => ?_) | refine E.bxO (fun _ => ?_) | refine E.al (fun _ => ?_) | refine E.sbO ?_ | refine E.dq ?_ | refine E.ct ?_ | refine E.cf ?_ | refine E.cs (fun hh => ?_) (fun hh => ?_) | refine E.at_block_other rfl ?_)
  exact rn ()
theorem c_Cut_yes {a r : List UInt8} (w : World) (h : 46 ∉ a) (hl : (a ++ 46 :: r).length ≤ 9223372036854775806) : Calls Tryd.prog 23 #[.string (tx (a ++ 46 :: r)), .string ⟨#[46]⟩] w (Ret (fun _ : Unit => .tuple #[.string (tx a), .string (tx r), .bool true]) (fun _ => []) w) := by
  have hi := idx_yes (r := r) h
  have hsz : (tx (a ++ 46 :: r)).size = a.length + r.length + 1 := by rw [tx_size]; simp; omega
  have hdot : (⟨#[46]⟩ : ByteArray).size = 1 := rfl
  have hll : a.length + r.length + 1 ≤ 9223372036854775806 := by rw [← hsz]; exact hl
  have e1 : (tx (a ++ 46 :: r)).extract 0 a.length = tx a := by rw [tx_extract]; simp
  have e2 : (tx (a ++ 46 :: r)).extract (a.length + 1) (tx (a ++ 46 :: r)).size = tx r := by
    rw [tx_extract, tx_size, List.take_length]
    simp
  have c_C : ∀ w, Calls Tryd.prog 35 #[.string (tx (a ++ 46 :: r)), .string ⟨#[46]⟩] w (Ret (fun _ : Unit => .tuple #[.string (tx a), .string (tx r), .bool true]) (fun _ => []) w) := fun w => by
    refine enter (args := _) Tryd.func35 rfl Tryd.ntmps35 (by simp) ?_
    repeat' (first | refine E.st ?_ | refine E.cl (h := fun _ w _ => c_Index w) (k := ?_) | refine E.dx [0, 1, 2, 3, 4, 5, 6, 7, 8, 9, 10, 11] ?_ | refine E.q4 (hy := a_str_pre (n := a.length) (hk := fun _ => ⟨hi, by omega⟩)) ?_ | refine E.q4 (hy := a_str_suf (n := a.length + 1) (hk := fun _ => ⟨by rw [hi, hdot]; omega, by omega⟩)) ?_ | refine E.q3 ?_ | refine E.q ?_ | refine E.qs ?_ | refine E.q2 ?_ | refine E.q4 ?_ | refine E.tr ?_ | refine E.ap (fun _ _ => ?_) | refine E.b1 (fun _ _ => ?_) | refine E.b0 (fun _ _ => ?_) | refine E.bsn (fun _ _ => ?_) | refine E.mk (fun _ _ => ?_) | refine E.bxO (fun _ => ?_) | refine E.al (fun _ => ?_) | refine E.sbO ?_ | refine E.dq ?_ | refine E.ct ?_ | refine E.cf ?_ | refine E.cs (fun hh => ?_) (fun hh => ?_) | refine E.at_block_other rfl ?_)
    all_goals first
      | (rw [e1, e2]; exact rn ())
      | (exfalso; omega)
  refine enter (args := _) Tryd.func23 rfl Tryd.ntmps23 (by simp) ?_
  repeat' (first | refine E.st ?_ | refine E.cl (h := fun _ w _ => c_C w) (k := ?_)  | refine E.q3 ?_ | refine E.q ?_ | refine E.qs ?_ | refine E.q2 ?_ | refine E.q4 ?_ | refine E.tr ?_ | refine E.ap (fun _ _ => ?_) | refine E.b1 (fun _ _ => ?_) | refine E.b0 (fun _ _ => ?_) | refine E.bsn (fun _ _ => ?_) | refine E.mk (fun _ _ => ?_) | refine E.bxO (fun _ => ?_) | refine E.al (fun _ => ?_) | refine E.sbO ?_ | refine E.dq ?_ | refine E.ct ?_ | refine E.cf ?_ | refine E.cs (fun hh => ?_) (fun hh => ?_) | refine E.at_block_other rfl ?_)
  exact rn ()
/-! ### The reference's pieces -/
def pcs : List UInt8 → List (List UInt8)
  | [] => [[]]
  | c :: r => if c = 46 then [] :: pcs r else match pcs r with
    | p :: ps => (c :: p) :: ps
    | [] => [[c]]
theorem pcs_ok : ∀ s, joinD (pcs s) = s ++ [46] ∧ ∀ p ∈ pcs s, 46 ∉ p
  | [] => ⟨rfl, by simp [pcs]⟩
  | c :: r => by
    obtain ⟨h1, h2⟩ := pcs_ok r
    unfold pcs
    by_cases hc : c = 46
    · rw [if_pos hc]
      refine ⟨?_, ?_⟩
      · rw [hc]
        simp only [joinD, List.flatMap_cons, List.nil_append, List.cons_append]
        rw [← h1]; rfl
      · intro p hp
        rcases List.mem_cons.1 hp with rfl | hp
        · simp
        · exact h2 p hp
    · rw [if_neg hc]
      cases hq : pcs r with
      | nil => rw [hq] at h1; simp [joinD] at h1
      | cons p ps =>
        rw [hq] at h1 h2
        dsimp only
        refine ⟨?_, ?_⟩
        · simp only [joinD, List.flatMap_cons, List.cons_append] at h1 ⊢
          rw [h1]
        · intro q hm
          rcases List.mem_cons.1 hm with rfl | hm
          · intro h46
            rcases List.mem_cons.1 h46 with h | h
            · exact hc h.symm
            · exact h2 p List.mem_cons_self h
          · exact h2 q (List.mem_cons_of_mem _ hm)
theorem pcs_eq {s : List UInt8} {ps : List (List UInt8)} (h1 : joinD ps = s ++ [46]) (h2 : ∀ p ∈ ps, 46 ∉ p) : ps = pcs s :=
  joinD_inj h2 (pcs_ok s).2 (h1.trans (pcs_ok s).1.symm)
theorem joinD_snoc (ps : List (List UInt8)) (p : List UInt8) : joinD (ps ++ [p]) = joinD ps ++ (p ++ [46]) := by simp [joinD]
abbrev V1 := { v' : Value // v'.oneCell' = true }
instance : ElT Tryd.prog 9 ByteArray := ⟨trivial⟩
theorem c_s_l9Cut {s : List UInt8} (w : World) (hl : s.length ≤ 1048576) : Calls Tryd.prog 20 #[.string (tx s), .int .u8 46] w (Ret (fun z : { v' : Value // v'.oneCell' = true } => z.1) (fun z => [ownF 9 z.1 ((pcs s).map tx)]) w) := by
  have hsz : (tx s).size = s.length := tx_size s
  have h46 : (46 : UInt8).toNat = 46 := rfl
  refine enter (args := _) Tryd.func20 rfl Tryd.ntmps20 (by simp) ?_
  repeat' (first | refine E.st ?_ | refine E.q3 ?_ | refine E.q ?_ | refine E.qs ?_ | refine E.q2 ?_ | refine E.q4 ?_ | refine E.tr ?_ | refine E.ap (fun _ _ => ?_) | refine E.b1 (fun _ _ => ?_) | refine E.b0 (fun _ _ => ?_) | refine E.bsn (fun _ _ => ?_) | refine E.mk (fun _ _ => ?_) | refine E.bxO (fun _ => ?_) | refine E.al (fun _ => ?_) | refine E.sbO ?_ | refine E.dq ?_ | refine E.ct ?_ | refine E.cf ?_ | refine E.cs (fun hh => ?_) (fun hh => ?_) | refine E.at_block_other rfl ?_)
  refine lq (fun p : Nat × Nat × List (List UInt8) × V1 => p.1 ≤ s.length + 1 ∧ p.2.1 ≤ p.1 ∧ (p.1 = s.length + 1 → p.2.1 = p.1) ∧ p.2.2.1.length ≤ p.1 ∧ (s ++ [46]).take p.2.1 = joinD p.2.2.1 ∧ (∀ q ∈ p.2.2.1, 46 ∉ q) ∧ 46 ∉ ((s ++ [46]).take p.1).drop p.2.1) (fun p => [(5, .pl p.2.2.2.1), (6, .pl (.int .i64 (p.2.1 : Int))), (7, .pl (.int .i64 (p.1 : Int)))]) (fun p => [ownF 9 p.2.2.2.1 (p.2.2.1.map tx)]) (fun p => s.length + 1 - p.1) (0, 0, [], ⟨_, by assumption⟩) ⟨by dsimp only; omega, Nat.le_refl _, fun h => rfl, Nat.le_refl _, by simp [joinD], by simp, by simp⟩ (fun p hp => ?_)
  obtain ⟨k, f, ps, ⟨v5, h5⟩⟩ := p
  obtain ⟨hk, hf, hfk, hpl, hj, hq, hc⟩ := hp
  dsimp only at hk hf hfk hpl hj hq hc h5 ⊢
  rcases Nat.lt_or_ge s.length k with hge | hle
  · have hk1 : k = s.length + 1 := by omega
    have hf1 := hfk hk1
    have hps : ps = pcs s := pcs_eq (by rw [← hj, hf1, hk1, List.take_of_length_le (by simp)]) hq
    subst hps
    repeat' (first | refine E.st ?_ | refine E.q3 ?_ | refine E.q ?_ | refine E.qs ?_ | refine E.q2 ?_ | refine E.q4 ?_ | refine E.tr ?_ | refine E.ap (fun _ _ => ?_) | refine E.b1 (fun _ _ => ?_) | refine E.b0 (fun _ _ => ?_) | refine E.bsn (fun _ _ => ?_) | refine E.mk (fun _ _ => ?_) | refine E.bxO (fun _ => ?_) | refine E.al (fun _ => ?_) | refine E.sbO ?_ | refine E.dq ?_ | refine E.ct ?_ | refine E.cf ?_ | refine E.cs (fun hh => ?_) (fun hh => ?_) | refine E.at_block_other rfl ?_)
    exact r1 (α := V1) ⟨_, h5⟩
  · -- the piece that would end here
    have hstep : (s ++ [46]).take (k + 1) = (s ++ [46]).take k ++ [(s ++ [46])[k]'(by simp; omega)] := List.take_succ_eq_append_getElem (by simp; omega)
    have hnew : (s ++ [46])[k]'(by simp; omega) = 46 → (s ++ [46]).take (k + 1) = joinD (ps ++ [(s.take k).drop f]) := by
      intro h
      rw [hstep, h, joinD_snoc, ← hj]
      have e1 : (s ++ [46]).take k = s.take k := by rw [List.take_append_of_le_length hle]
      have e2 : (s ++ [46]).take f = (s.take k).take f := by rw [List.take_append_of_le_length (by omega), List.take_take, Nat.min_eq_left hf]
      rw [e1, e2, ← List.append_assoc, List.take_append_drop]
    have hfree : 46 ∉ (s.take k).drop f := by
      have e1 : (s ++ [46]).take k = s.take k := by rw [List.take_append_of_le_length hle]
      rw [← e1]; exact hc
    have hmap : (ps ++ [(s.take k).drop f]).map tx = ps.map tx ++ [(tx s).extract f k] := by rw [List.map_append, tx_extract]; rfl
    have hqn : ∀ q ∈ ps ++ [(s.take k).drop f], 46 ∉ q := fun q hm => by
      rcases List.mem_append.1 hm with h | h
      · exact hq q h
      · rw [List.mem_singleton.1 h]; exact hfree
    have hml : (ps.map tx).length ≤ 1048577 := by rw [List.length_map]; omega
    have hemp : ((s ++ [46]).take (k + 1)).drop (k + 1) = [] := by rw [List.drop_eq_nil_iff, List.length_take]; omega
    rcases Nat.lt_or_ge k s.length with hlt | hge
    · obtain ⟨b, hb⟩ := get_lt hlt
      have hb' := tx_get hb
      have hbe : (s ++ [46])[k]'(by simp; omega) = b := by
        rw [List.getElem_append_left hlt]
        exact (List.getElem?_eq_some_iff.1 hb).2
      by_cases hb46 : b = 46
      · subst hb46
        repeat' (first | refine E.st ?_ | refine E.q4 (hy := a_index_str (hb := fun _ => ⟨by omega, hb'⟩)) ?_ | refine E.q4 (hy := a_str_sub (m := f) (n := k) (hk := fun _ => ⟨rfl, rfl, by omega, by omega⟩)) ?_ | refine E.q3 ?_ | refine E.q ?_ | refine E.qs ?_ | refine E.q2 ?_ | refine E.q4 ?_ | refine E.tr ?_ | refine E.ap (fun _ _ => ?_) | refine E.b1 (fun _ _ => ?_) | refine E.b0 (fun _ _ => ?_) | refine E.bsn (fun _ _ => ?_) | refine E.mk (fun _ _ => ?_) | refine E.bxO (fun _ => ?_) | refine E.al (fun _ => ?_) | refine E.sbO ?_ | refine E.dq ?_ | refine E.ct ?_ | refine E.cf ?_ | refine E.cs (fun hh => ?_) (fun hh => ?_) | refine E.at_block_other rfl ?_)
        all_goals first
          | (rename_i v hv; refine rd (k + 1, k + 1, ps ++ [(s.take k).drop f], ⟨v, hv⟩) ⟨by dsimp only; omega, Nat.le_refl _, fun _ => rfl, by dsimp only; rw [List.length_append]; simp only [List.length_singleton]; omega, hnew hbe, hqn, ?_⟩ (by dsimp only; omega) (hK := KSub.ownF pk hmap.symm ks)
             dsimp only; rw [hemp]; simp)
          | (exfalso; simp_all; done)
          | (exfalso; simp_all; omega)
      · have hbn : ¬ b.toNat = 46 := fun h => hb46 (UInt8.toNat_inj.1 h)
        have hfr' : 46 ∉ ((s ++ [46]).take (k + 1)).drop f := by
          rw [hstep, hbe, List.drop_append_of_le_length (by rw [List.length_take]; simp; omega)]
          intro h
          rcases List.mem_append.1 h with h | h
          · exact hc h
          · exact hb46 (List.mem_singleton.1 h).symm
        repeat' (first | refine E.st ?_ | refine E.q4 (hy := a_index_str (hb := fun _ => ⟨by omega, hb'⟩)) ?_ | refine E.q4 (hy := a_str_sub (m := f) (n := k) (hk := fun _ => ⟨rfl, rfl, by omega, by omega⟩)) ?_ | refine E.q3 ?_ | refine E.q ?_ | refine E.qs ?_ | refine E.q2 ?_ | refine E.q4 ?_ | refine E.tr ?_ | refine E.ap (fun _ _ => ?_) | refine E.b1 (fun _ _ => ?_) | refine E.b0 (fun _ _ => ?_) | refine E.bsn (fun _ _ => ?_) | refine E.mk (fun _ _ => ?_) | refine E.bxO (fun _ => ?_) | refine E.al (fun _ => ?_) | refine E.sbO ?_ | refine E.dq ?_ | refine E.ct ?_ | refine E.cf ?_ | refine E.cs (fun hh => ?_) (fun hh => ?_) | refine E.at_block_other rfl ?_)
        all_goals first
          | (refine rd (k + 1, f, ps, ⟨v5, h5⟩) ⟨by dsimp only; omega, by dsimp only; omega, fun h => by dsimp only at h; omega, by dsimp only; omega, hj, hq, hfr'⟩ (by dsimp only; omega); done)
          | (exfalso; simp_all; done)
          | (exfalso; simp_all; omega)
    · have hk1 : k = s.length := by omega
      have hbe : (s ++ [46])[k]'(by simp; omega) = 46 := by subst hk1; simp
      repeat' (first | refine E.st ?_ | refine E.q4 (hy := a_index_str (b := 0) (hb := fun h => by exfalso; simp [hsz, hk1] at h)) ?_ | refine E.q4 (hy := a_str_sub (m := f) (n := k) (hk := fun _ => ⟨rfl, rfl, by omega, by omega⟩)) ?_ | refine E.q3 ?_ | refine E.q ?_ | refine E.qs ?_ | refine E.q2 ?_ | refine E.q4 ?_ | refine E.tr ?_ | refine E.ap (fun _ _ => ?_) | refine E.b1 (fun _ _ => ?_) | refine E.b0 (fun _ _ => ?_) | refine E.bsn (fun _ _ => ?_) | refine E.mk (fun _ _ => ?_) | refine E.bxO (fun _ => ?_) | refine E.al (fun _ => ?_) | refine E.sbO ?_ | refine E.dq ?_ | refine E.ct ?_ | refine E.cf ?_ | refine E.cs (fun hh => ?_) (fun hh => ?_) | refine E.at_block_other rfl ?_)
      all_goals first
        | (rename_i v hv; refine rd (k + 1, k + 1, ps ++ [(s.take k).drop f], ⟨v, hv⟩) ⟨by dsimp only; omega, Nat.le_refl _, fun _ => rfl, by dsimp only; rw [List.length_append]; simp only [List.length_singleton]; omega, hnew hbe, hqn, ?_⟩ (by dsimp only; omega) (hK := KSub.ownF pk hmap.symm ks)
           dsimp only; rw [hemp]; simp)
        | (exfalso; simp_all; done)
        | (exfalso; simp_all; omega)
end E
end Go.Proofs.YtlepiheoiinpnaaDoor
