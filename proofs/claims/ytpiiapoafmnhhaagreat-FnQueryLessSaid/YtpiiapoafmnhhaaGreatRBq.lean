/- FnQueryLess: whatever is drawn, what is near one in what is seen by fewer letters is near it in what is seen by more, and no more pages are read. No condition. -/
import Derived.Test.YtpiiapoafmnhhaaGreatBq
import Derived.Test.YtpiiapoafmnhhaaGreatBO
import Derived.Test.YtpiiapoafmnhhaaGreatRows
import Derived.Test.YtpiiapoafmnhhaaGreatBs
import Derived.ProofKit
import Derived.OpenShut
import Derived.ShutString
import Derived.ChangeOld
import Derived.Lib.SmallJoins
namespace Go.Proofs.YtpiiapoafmnhhaaGreat
namespace E
open Go.ChangeShapes Go.WideShapes Go.ChangeAt Go.RowKit Go.Joins Go.Deep
theorem dec_u8B {H : Type} {enc : TypeId × Value → H} {W : World} {base : Nat} {spare : Nat → Bool} {held : Bool} : DecP enc Tryz.prog W base spare held 5 UInt8 (fun _ => True) := fun n cs y h => by
  obtain ⟨a, ea, _, wa⟩ := DataW.trod_int Tryz.underlying5 h
  refine ⟨UInt8.ofNat a.toNat, ?_, trivial⟩
  have h1 : 0 ≤ a ∧ a < 256 := by
    have h2 : IntKind.u8.min = 0 := rfl
    have h3 : IntKind.u8.max = 255 := rfl
    simp only [Lit.wf, Bool.and_eq_true, decide_eq_true_eq, h2, h3] at wa
    omega
  rw [ea]
  show _ = [Value.int .u8 _]
  congr 2
  simp only [UInt8.toNat_ofNat']
  omega
end E
namespace RowBq
open Go.ChangeShapes Go.WideShapes Go.ChangeAt Go.RowKit Go.Joins
set_option linter.unusedVariables false
set_option maxRecDepth 100000 in
theorem lifted (os : Os) (started : os.Started) (H : Type) (enc : TypeId × Value → H) :
    ReturnsInHanded {} Tryz.checked os 4 .any (Rows.fnQueryLessSpec.pre6 enc Tryz.prog Tryz.f4 Rows.fnQueryLessRow.domain false) (Rows.fnQueryLessSpec.post enc Tryz.prog Tryz.f4 false true false false) := by
  refine returnsInHanded_of_change (C := Tryz.checked) E.rowOwn started (by kernel_rfl) Tryz.func4
    (ChangeSpec.witness6 (enc := enc) (C := Tryz.checked) false ⟨#[], #[.slice none 0 0, .slice none 0 0], []⟩ 8 (by kernel_rfl) (by kernel_rfl) (by kernel_rfl) (by kernel_rfl)) ?_
  intro W base args ds gs before hval0 hW hcnd _
  have hval : ∀ (j : Nat) t v, Tryz.f4.params[j]? = some t → args[j]? = some v → Value.okWide Tryz.prog W .any base t v := hval0
  have hW' := hW
  obtain ⟨p, q, hA0, hV, rfl, hfz, hnd⟩ := hW
  have hA : DataW.TrodAll enc Tryz.prog W 0 (fun _ => true) true Tryz.f4.params.toList args.toList ds p := hA0
  rw [Tryz.params4] at hA hval
  obtain ⟨v0, vs0, d0, ds0, p0, q0, hargs, rfl, rfl, h0, r0⟩ := trodAll_cons hA
  obtain ⟨v1, vs1, d1, ds1, p1, q1, hargs1, rfl, rfl, h1, r1⟩ := trodAll_cons r0
  obtain ⟨rfl, rfl, rfl⟩ := trodAll_nil r1
  obtain rfl : args = #[v0, v1] := by cases args; simp_all
  obtain ⟨rfl, rfl⟩ := trodVars_none hV
  have k0 := h0
  have k1 := h1
  have lt0 : ∀ x ∈ p0, x.block < W.heap.size := by obtain ⟨m, hm⟩ := k0; exact DataW.trod_lt m _ _ _ hm
  have lt1 : ∀ x ∈ p1, x.block < W.heap.size := by obtain ⟨m, hm⟩ := k1; exact DataW.trod_lt m _ _ _ hm
  obtain ⟨xs, r0', -⟩ := E.open_rdP (α := UInt8) Tryz.underlying41 (by kernel_rfl) (by decide) E.dec_u8B (hval 0 41 v0 rfl rfl) h0
  obtain ⟨ys, r1', -⟩ := E.open_rdP (α := UInt8) Tryz.underlying41 (by kernel_rfl) (by decide) E.dec_u8B (hval 1 41 v1 rfl rfl) h1
  clear hA0 hval0
  refine (E.c_law_FnQueryLess W r0' r1').mono fun e W' ⟨_, he, bel0⟩ => ?_
  have bel := bel0.below
  subst he
  exact ⟨_, rfl, _, _, _, [], _, [], hW', trodAll_mk1 (shut_bool Tryz.underlying4 _), (trodAll_cons_mk (Below.trod E.rowLaid (by kernel_rfl) (of_decide_eq_true (by kernel_rfl)) k0 bel lt0) (trodAll_cons_mk (Below.trod E.rowLaid (by kernel_rfl) (of_decide_eq_true (by kernel_rfl)) k1 bel lt1) trodAll_mk0)), rfl, bel.frame _, fun h => by cases h⟩
theorem f_inPlace : (Rows.fnQueryLessRow.inPlace == Program.inPlace Tryz.prog 4) = true := by kernel_rfl
theorem f_unf : (Rows.fnQueryLessRow.unfollowed == Program.unfollowed Tryz.prog 4) = true := by kernel_rfl
theorem f_rec : (Rows.fnQueryLessRow.recurses == Program.recurses Tryz.prog 4) = true := by kernel_rfl
theorem f_named : (Rows.fnQueryLessRow.named == Program.varsNamed Tryz.prog 4) = true := by kernel_rfl
theorem closed : joinedFacts Tryz.prog 4 Tryz.f4 Rows.fnQueryLessSpec Rows.fnQueryLessRow = true := by
  unfold joinedFacts
  exact (E.aT (E.aT (E.aT (E.aT (E.aT (E.aT (E.aT (E.aT (E.aT (E.aT (E.aT (E.aT (E.aT (E.aT (E.aT (E.aT (E.aT (E.aT (E.aT (E.aT (E.aT (E.aT (E.aT (E.aT (E.aT (E.aT (E.aT (E.aT (E.aT (E.aT (E.aT (by kernel_rfl) E.j_laid) E.j_maps) (by kernel_rfl)) (by kernel_rfl)) (by kernel_rfl)) (by kernel_rfl)) (by kernel_rfl)) (by kernel_rfl)) f_inPlace) f_unf) f_rec) f_named) (by kernel_rfl)) (by kernel_rfl)) (by kernel_rfl)) (by kernel_rfl)) (by kernel_rfl)) (by kernel_rfl)) (by kernel_rfl)) (by kernel_rfl)) (by kernel_rfl)) E.j_keys) (by kernel_rfl)) E.j_heard) E.j_enter) E.j_lifts) E.j_make) (by kernel_rfl)) (by kernel_rfl)) (by kernel_rfl)) (by kernel_rfl))
theorem over : Rows.fnQueryLessRow.holds Tryz.pinned (OpenSpec.ofChange Rows.fnQueryLessSpec) :=
  OpenClaim.holds_of_wide 4 Tryz.f4 rfl rfl rfl rfl rfl rfl rfl ⟨rfl, rfl, rfl, rfl, rfl⟩ rfl rfl rfl rfl rfl (by kernel_rfl) Tryz.func4 closed
    (of_decide_eq_true (by kernel_rfl)) (by unfold Func.isWrapper; first | (rw [if_pos (by decide +kernel)]; kernel_rfl) | (rw [if_neg (by decide +kernel)]; exact ⟨rfl, rfl⟩))
    (fun os started H enc _ => lifted os started H enc)
/-- The statement. -/
theorem proved : Rows.FnQueryLessSaid := over
#print axioms proved
end RowBq
end Go.Proofs.YtpiiapoafmnhhaaGreat
