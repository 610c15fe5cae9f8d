/- FnExactQueryRun: for whatever store, sight, pool and question the program answers, keeps at hand and counts what the reference does, in memory of its own, and leaves the store and the pool as they were. No condition. -/
import Derived.Test.YtpiiapoafmnhhaaGreatLQr
import Derived.Test.YtpiiapoafmnhhaaGreatOr
import Derived.Test.YtpiiapoafmnhhaaGreatRows
import Derived.Test.YtpiiapoafmnhhaaGreatBs
import Derived.ProofKit
import Derived.OpenShut
import Derived.ShutString
import Derived.ChangeOld
import Derived.Lib.SmallJoins
namespace Go.Proofs.YtpiiapoafmnhhaaGreat
namespace E
open Go Go.ChangeShapes Go.WideShapes Go.ChangeAt Go.RowKit Go.Joins Go.Deep
section
variable {H : Type} {enc : TypeId × Value → H} {W : World} {base : Nat} {spare : Nat → Bool} {held : Bool}
theorem dec_query : Dec enc Tryz.prog W base spare held 26 Qu := fun n cs y h => by
  obtain ⟨y0, y1, m, _, hl, h0, h1⟩ := trod_struct2 Tryz.underlying26 h
  obtain ⟨a, ea⟩ := dec_int _ _ _ h0
  obtain ⟨b, eb⟩ := dec_node _ _ _ h1
  exact ⟨⟨a, b⟩, split2 ea eb hl rfl (by kernel_rfl) (by kernel_rfl)⟩
theorem dec_seg : DecP enc Tryz.prog W base spare held 96 Sg (fun s => s.b.size ≤ 9223372036854775807) := fun n cs y h => by
  obtain ⟨y0, y1, m, _, hl, h0, h1⟩ := trod_struct2 Tryz.underlying96 h
  obtain ⟨a, ea⟩ := dec_int _ _ _ h0
  obtain ⟨s, eb, _, hw⟩ := DataW.trod_string Tryz.underlying9 h1
  exact ⟨⟨a, s⟩, split2 ea eb hl rfl (by kernel_rfl) (by kernel_rfl), by dsimp only; simp only [maxLen] at hw; omega⟩
end
end E
namespace RowQr
open Go.ChangeShapes Go.WideShapes Go.ChangeAt Go.RowKit Go.Joins
set_option linter.unusedVariables false
set_option maxRecDepth 100000 in
theorem lifted (os : Os) (started : os.Started) (H : Type) (enc : TypeId × Value → H) :
    ReturnsInHanded {} Tryz.checked os 8 .any (Rows.fnExactQueryRunSpec.pre6 enc Tryz.prog Tryz.f8 Rows.fnExactQueryRunRow.domain false) (Rows.fnExactQueryRunSpec.post enc Tryz.prog Tryz.f8 false true false false) := by
  refine returnsInHanded_of_change (C := Tryz.checked) E.rowOwn started (by kernel_rfl) Tryz.func8
    (ChangeSpec.witness6 (enc := enc) (C := Tryz.checked) false ⟨#[], #[.slice none 0 0, .int .i64 0, .agg #[.int .i64 0, .slice none 0 0], .agg #[.int .i64 0, .int .i64 0, .int .i64 0]], []⟩ 8 (by kernel_rfl) (by kernel_rfl) (by kernel_rfl) (by kernel_rfl)) ?_
  intro W base args ds gs before hval0 hW hcnd _
  have hval : ∀ (j : Nat) t v, Tryz.f8.params[j]? = some t → args[j]? = some v → Value.okWide Tryz.prog W .any base t v := hval0
  have hW' := hW
  obtain ⟨p, q, hA0, hV, rfl, hfz, hnd⟩ := hW
  have hA : DataW.TrodAll enc Tryz.prog W 0 (fun _ => true) true Tryz.f8.params.toList args.toList ds p := hA0
  rw [Tryz.params8] at hA hval
  obtain ⟨v0, vs0, d0, ds0, p0, q0, hargs, rfl, rfl, h0, r0⟩ := trodAll_cons hA
  obtain ⟨v1, vs1, d1, ds1, p1, q1, hargs1, rfl, rfl, h1, r1⟩ := trodAll_cons r0
  obtain ⟨v2, vs2, d2, ds2, p2, q2, hargs2, rfl, rfl, h2, r2⟩ := trodAll_cons r1
  obtain ⟨v3, vs3, d3, ds3, p3, q3, hargs3, rfl, rfl, h3, r3⟩ := trodAll_cons r2
  obtain ⟨rfl, rfl, rfl⟩ := trodAll_nil r3
  obtain rfl : args = #[v0, v1, v2, v3] := by cases args; simp_all
  obtain ⟨rfl, rfl⟩ := trodVars_none hV
  have k0 := h0
  have k1 := h1
  have k2 := h2
  have k3 := h3
  have lt0 : ∀ x ∈ p0, x.block < W.heap.size := by obtain ⟨m, hm⟩ := k0; exact DataW.trod_lt m _ _ _ hm
  have lt1 : ∀ x ∈ p1, x.block < W.heap.size := by obtain ⟨m, hm⟩ := k1; exact DataW.trod_lt m _ _ _ hm
  have lt2 : ∀ x ∈ p2, x.block < W.heap.size := by obtain ⟨m, hm⟩ := k2; exact DataW.trod_lt m _ _ _ hm
  have lt3 : ∀ x ∈ p3, x.block < W.heap.size := by obtain ⟨m, hm⟩ := k3; exact DataW.trod_lt m _ _ _ hm
  obtain ⟨xs, hr, hsz⟩ := E.open_rdP Tryz.underlying22 (by kernel_rfl) (by decide) E.dec_seg (hval 0 22 v0 rfl rfl) h0
  obtain ⟨c, rfl⟩ := okWide_int Tryz.underlying3 (hval 1 _ _ rfl rfl)
  obtain ⟨cs2, n2, y2, rfl, hf2⟩ := E.open_aggL Tryz.underlying77 (hval 2 77 v2 rfl rfl) h2
  obtain ⟨⟨z, ⟨A, mm, cp⟩⟩, rfl, ⟨⟨z', ps⟩, hz, hp⟩⟩ := E.dec_pool _ _ _ hf2
  dsimp only at hz hp
  subst hz
  obtain ⟨cs', n', y', rfl, hf'⟩ := E.open_aggL Tryz.underlying26 (hval 3 26 v3 rfl rfl) h3
  obtain ⟨⟨k, ⟨l, m⟩⟩, rfl⟩ := E.dec_query _ _ _ hf'
  clear hA0 hval0
  refine (E.c_law_QueryRun W hsz hr hp).mono fun e W' ⟨_, he, bel0⟩ => ?_
  have bel := bel0.below
  subst he
  exact ⟨_, rfl, _, _, _, [], _, [], hW', trodAll_mk1 (shut_bool Tryz.underlying4 _), (trodAll_cons_mk (Below.trod E.rowLaid (by kernel_rfl) (of_decide_eq_true (by kernel_rfl)) k0 bel lt0) (trodAll_cons_mk (Below.trod E.rowLaid (by kernel_rfl) (of_decide_eq_true (by kernel_rfl)) k1 bel lt1) (trodAll_cons_mk (Below.trod E.rowLaid (by kernel_rfl) (of_decide_eq_true (by kernel_rfl)) k2 bel lt2) (trodAll_cons_mk (Below.trod E.rowLaid (by kernel_rfl) (of_decide_eq_true (by kernel_rfl)) k3 bel lt3) trodAll_mk0)))), rfl, bel.frame _, fun h => by cases h⟩
theorem f_inPlace : (Rows.fnExactQueryRunRow.inPlace == Program.inPlace Tryz.prog 8) = true := by kernel_rfl
theorem f_unf : (Rows.fnExactQueryRunRow.unfollowed == Program.unfollowed Tryz.prog 8) = true := by kernel_rfl
theorem f_rec : (Rows.fnExactQueryRunRow.recurses == Program.recurses Tryz.prog 8) = true := by kernel_rfl
theorem f_named : (Rows.fnExactQueryRunRow.named == Program.varsNamed Tryz.prog 8) = true := by kernel_rfl
theorem closed : joinedFacts Tryz.prog 8 Tryz.f8 Rows.fnExactQueryRunSpec Rows.fnExactQueryRunRow = true := by
  unfold joinedFacts
  exact (E.aT (E.aT (E.aT (E.aT (E.aT (E.aT (E.aT (E.aT (E.aT (E.aT (E.aT (E.aT (E.aT (E.aT (E.aT (E.aT (E.aT (E.aT (E.aT (E.aT (E.aT (E.aT (E.aT (E.aT (E.aT (E.aT (E.aT (E.aT (E.aT (E.aT (E.aT (by kernel_rfl) E.j_laid) E.j_maps) (by kernel_rfl)) (by kernel_rfl)) (by kernel_rfl)) (by kernel_rfl)) (by kernel_rfl)) (by kernel_rfl)) f_inPlace) f_unf) f_rec) f_named) (by kernel_rfl)) (by kernel_rfl)) (by kernel_rfl)) (by kernel_rfl)) (by kernel_rfl)) (by kernel_rfl)) (by kernel_rfl)) (by kernel_rfl)) (by kernel_rfl)) E.j_keys) (by kernel_rfl)) E.j_heard) E.j_enter) E.j_lifts) E.j_make) (by kernel_rfl)) (by kernel_rfl)) (by kernel_rfl)) (by kernel_rfl))
theorem over : Rows.fnExactQueryRunRow.holds Tryz.pinned (OpenSpec.ofChange Rows.fnExactQueryRunSpec) :=
  OpenClaim.holds_of_wide 8 Tryz.f8 rfl rfl rfl rfl rfl rfl rfl ⟨rfl, rfl, rfl, rfl, rfl⟩ rfl rfl rfl rfl rfl (by kernel_rfl) Tryz.func8 closed
    (of_decide_eq_true (by kernel_rfl)) (by unfold Func.isWrapper; first | (rw [if_pos (by decide +kernel)]; kernel_rfl) | (rw [if_neg (by decide +kernel)]; exact ⟨rfl, rfl⟩))
    (fun os started H enc _ => lifted os started H enc)
/-- The statement. -/
theorem proved : Rows.FnExactQueryRunSaid := over
#print axioms proved
end RowQr
end Go.Proofs.YtpiiapoafmnhhaaGreat
