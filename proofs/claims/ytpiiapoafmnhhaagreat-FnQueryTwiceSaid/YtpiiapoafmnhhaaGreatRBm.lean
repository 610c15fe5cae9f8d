/- FnQueryTwice: whatever is drawn, asked twice at once, with room for all, nothing is read the second time. No condition. -/
import Derived.Test.YtpiiapoafmnhhaaGreatBm
import Derived.Test.YtpiiapoafmnhhaaGreatBO
import Derived.Test.YtpiiapoafmnhhaaGreatRows
import Derived.Test.YtpiiapoafmnhhaaGreatBs
import Derived.ProofKit
import Derived.OpenShut
import Derived.ShutString
import Derived.ChangeOld
import Derived.Lib.SmallJoins
namespace Go.Proofs.YtpiiapoafmnhhaaGreat
namespace E
open Go.ChangeShapes Go.WideShapes Go.ChangeAt Go.RowKit Go.Joins Go.Deep
theorem dec_u8B {H : Type} {enc : TypeId × Value → H} {W : World} {base : Nat} {spare : Nat → Bool} {held : Bool} : DecP enc Tryz.prog W base spare held 5 UInt8 (fun _ => True) := fun n cs y h => by
  obtain ⟨a, ea, _, wa⟩ := DataW.trod_int Tryz.underlying5 h
  refine ⟨UInt8.ofNat a.toNat, ?_, trivial⟩
  have h1 : 0 ≤ a ∧ a < 256 := by
    have h2 : IntKind.u8.min = 0 := rfl
    have h3 : IntKind.u8.max = 255 := rfl
    simp only [Lit.wf, Bool.and_eq_true, decide_eq_true_eq, h2, h3] at wa
    omega
  rw [ea]
  show _ = [Value.int .u8 _]
  congr 2
  simp only [UInt8.toNat_ofNat']
  omega
end E
namespace RowBm
open Go.ChangeShapes Go.WideShapes Go.ChangeAt Go.RowKit Go.Joins
set_option linter.unusedVariables false
set_option maxRecDepth 100000 in
theorem lifted (os : Os) (started : os.Started) (H : Type) (enc : TypeId × Value → H) :
    ReturnsInHanded {} Tryz.checked os 11 .any (Rows.fnQueryTwiceSpec.pre6 enc Tryz.prog Tryz.f11 Rows.fnQueryTwiceRow.domain false) (Rows.fnQueryTwiceSpec.post enc Tryz.prog Tryz.f11 false true false false) := by
  refine returnsInHanded_of_change (C := Tryz.checked) E.rowOwn started (by kernel_rfl) Tryz.func11
    (ChangeSpec.witness6 (enc := enc) (C := Tryz.checked) false ⟨#[], #[.slice none 0 0], []⟩ 8 (by kernel_rfl) (by kernel_rfl) (by kernel_rfl) (by kernel_rfl)) ?_
  intro W base args ds gs before hval0 hW hcnd _
  have hval : ∀ (j : Nat) t v, Tryz.f11.params[j]? = some t → args[j]? = some v → Value.okWide Tryz.prog W .any base t v := hval0
  have hW' := hW
  obtain ⟨p, q, hA0, hV, rfl, hfz, hnd⟩ := hW
  have hA : DataW.TrodAll enc Tryz.prog W 0 (fun _ => true) true Tryz.f11.params.toList args.toList ds p := hA0
  rw [Tryz.params11] at hA hval
  obtain ⟨v0, vs0, d0, ds0, p0, q0, hargs, rfl, rfl, h0, r0⟩ := trodAll_cons hA
  obtain ⟨rfl, rfl, rfl⟩ := trodAll_nil r0
  obtain rfl : args = #[v0] := by cases args; simp_all
  obtain ⟨rfl, rfl⟩ := trodVars_none hV
  have k0 := h0
  have lt0 : ∀ x ∈ p0, x.block < W.heap.size := by obtain ⟨m, hm⟩ := k0; exact DataW.trod_lt m _ _ _ hm
  obtain ⟨xs, r0', -⟩ := E.open_rdP (α := UInt8) Tryz.underlying41 (by kernel_rfl) (by decide) E.dec_u8B (hval 0 41 v0 rfl rfl) h0
  clear hA0 hval0
  refine (E.c_law_FnQueryTwice W r0').mono fun e W' ⟨_, he, bel0⟩ => ?_
  have bel := bel0.below
  subst he
  exact ⟨_, rfl, _, _, _, [], _, [], hW', trodAll_mk1 (shut_bool Tryz.underlying4 _), (trodAll_cons_mk (Below.trod E.rowLaid (by kernel_rfl) (of_decide_eq_true (by kernel_rfl)) k0 bel lt0) trodAll_mk0), rfl, bel.frame _, fun h => by cases h⟩
theorem f_inPlace : (Rows.fnQueryTwiceRow.inPlace == Program.inPlace Tryz.prog 11) = true := by kernel_rfl
theorem f_unf : (Rows.fnQueryTwiceRow.unfollowed == Program.unfollowed Tryz.prog 11) = true := by kernel_rfl
theorem f_rec : (Rows.fnQueryTwiceRow.recurses == Program.recurses Tryz.prog 11) = true := by kernel_rfl
theorem f_named : (Rows.fnQueryTwiceRow.named == Program.varsNamed Tryz.prog 11) = true := by kernel_rfl
theorem closed : joinedFacts Tryz.prog 11 Tryz.f11 Rows.fnQueryTwiceSpec Rows.fnQueryTwiceRow = true := by
  unfold joinedFacts
  exact (E.aT (E.aT (E.aT (E.aT (E.aT (E.aT (E.aT (E.aT (E.aT (E.aT (E.aT (E.aT (E.aT (E.aT (E.aT (E.aT (E.aT (E.aT (E.aT (E.aT (E.aT (E.aT (E.aT (E.aT (E.aT (E.aT (E.aT (E.aT (E.aT (E.aT (E.aT (by kernel_rfl) E.j_laid) E.j_maps) (by kernel_rfl)) (by kernel_rfl)) (by kernel_rfl)) (by kernel_rfl)) (by kernel_rfl)) (by kernel_rfl)) f_inPlace) f_unf) f_rec) f_named) (by kernel_rfl)) (by kernel_rfl)) (by kernel_rfl)) (by kernel_rfl)) (by kernel_rfl)) (by kernel_rfl)) (by kernel_rfl)) (by kernel_rfl)) (by kernel_rfl)) E.j_keys) (by kernel_rfl)) E.j_heard) E.j_enter) E.j_lifts) E.j_make) (by kernel_rfl)) (by kernel_rfl)) (by kernel_rfl)) (by kernel_rfl))
theorem over : Rows.fnQueryTwiceRow.holds Tryz.pinned (OpenSpec.ofChange Rows.fnQueryTwiceSpec) :=
  OpenClaim.holds_of_wide 11 Tryz.f11 rfl rfl rfl rfl rfl rfl rfl ⟨rfl, rfl, rfl, rfl, rfl⟩ rfl rfl rfl rfl rfl (by kernel_rfl) Tryz.func11 closed
    (of_decide_eq_true (by kernel_rfl)) (by unfold Func.isWrapper; first | (rw [if_pos (by decide +kernel)]; kernel_rfl) | (rw [if_neg (by decide +kernel)]; exact ⟨rfl, rfl⟩))
    (fun os started H enc _ => lifted os started H enc)
/-- The statement. -/
theorem proved : Rows.FnQueryTwiceSaid := over
#print axioms proved
end RowBm
end Go.Proofs.YtpiiapoafmnhhaaGreat
