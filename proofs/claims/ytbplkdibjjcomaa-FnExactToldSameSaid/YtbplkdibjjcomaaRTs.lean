/- FnExactToldSame: for whatever is told twice, the program says of it what the reference says. No condition. -/
import Derived.Test.YtbplkdibjjcomaaLTs
import Derived.Test.YtbplkdibjjcomaaOpp
import Derived.Test.YtbplkdibjjcomaaRows
import Derived.ProofKit
namespace Go.Proofs.Ytbplkdibjjcomaa
namespace RowTs
open Go.ChangeShapes Go.WideShapes Go.ChangeAt Go.RowKit Go.Joins Go.Deep
set_option linter.unusedVariables false
theorem own : ownKnob Try.prog.godebug = none := by kernel_rfl
theorem laidOut : laidOutB Try.prog = true := by kernel_rfl
section
variable {H : Type} {enc : TypeId × Value → H} {W : World} {base : Nat} {spare : Nat → Bool} {held : Bool}
theorem dstep {cs A : List Value} {o k : Nat} (h : (cs.drop o).take k = A) : cs.drop o = A ++ cs.drop (o + k) := by
  rw [← h, ← List.drop_drop]; exact (List.take_append_drop k (cs.drop o)).symm
theorem split3 {cs A B C : List Value} {o0 k0 o1 k1 o2 k2 n : Nat} (e0 : (cs.drop o0).take k0 = A) (e1 : (cs.drop o1).take k1 = B) (e2 : (cs.drop o2).take k2 = C) (hl : cs.length = n) (h0 : o0 = 0) (h1 : o1 = o0 + k0) (h2 : o2 = o1 + k1) (hk : o2 + k2 = n) : cs = A ++ (B ++ C) := by
  have s0 := dstep e0
  have s1 := dstep e1
  have s2 := dstep e2
  rw [hk, show cs.drop n = [] from List.drop_eq_nil_of_le (by omega), List.append_nil] at s2
  rw [← h2, s2] at s1
  rw [← h1, s1, h0, List.drop_zero] at s0
  exact s0
theorem dec_int : E.Dec enc Try.prog W base spare held 3 Int := fun n cs y h => by
  obtain ⟨a, ea, _, _⟩ := DataW.trod_int Try.underlying3 h
  exact ⟨a, ea⟩
theorem dec_told : E.DecP enc Try.prog W base spare held 64 E.TdR (fun x => ∃ t : E.Td, x.c = t.c ∧ x.r = t.r ∧ E.RdF W (.slice x.s.a x.s.n x.s.c) t.a) := fun n cs y h => by
  obtain ⟨y0, y1, y2, m, _, hl, h0, h1, h2⟩ := trod_struct3 Try.underlying64 h
  obtain ⟨a, ea⟩ := dec_int _ _ _ h0
  obtain ⟨s, xs, eb, hr, _⟩ := E.open_cellsP Try.underlying62 (by kernel_rfl) (by decide) (E.Dec.p dec_int) h1
  obtain ⟨c, ec⟩ := dec_int _ _ _ h2
  exact ⟨⟨a, s, c⟩, split3 ea eb ec hl rfl (by kernel_rfl) (by kernel_rfl) (by kernel_rfl), ⟨a, xs, c⟩, rfl, rfl, hr⟩
end
set_option maxRecDepth 100000 in
theorem lifted (os : Os) (started : os.Started) (H : Type) (enc : TypeId × Value → H) :
    ReturnsInHanded {} Try.checked os 5 .any (Rows.fnExactToldSameSpec.pre6 enc Try.prog Try.f5 Rows.fnExactToldSameRow.domain false) (Rows.fnExactToldSameSpec.post enc Try.prog Try.f5 false true false false) := by
  refine returnsInHanded_of_change (C := Try.checked) own started (by kernel_rfl) Try.func5
    (ChangeSpec.witness6 (enc := enc) (C := Try.checked) false ⟨#[], #[.slice none 0 0, .slice none 0 0], []⟩ 8 (by kernel_rfl) (by kernel_rfl) (by kernel_rfl) (by kernel_rfl)) ?_
  intro W base args ds gs before hval0 hW hcnd _
  have hval : ∀ (j : Nat) t v, Try.f5.params[j]? = some t → args[j]? = some v → Value.okWide Try.prog W .any base t v := hval0
  have hW' := hW
  obtain ⟨p, q, hA0, hV, rfl, hfz, hnd⟩ := hW
  have hA : DataW.TrodAll enc Try.prog W 0 (fun _ => true) true Try.f5.params.toList args.toList ds p := hA0
  rw [Try.params5] at hA hval
  obtain ⟨v0, vs0, d0, ds0, p0, q0, hargs, rfl, rfl, h0, r0⟩ := trodAll_cons hA
  obtain ⟨v1, vs1, d1, ds1, p1, q1, hargs1, rfl, rfl, h1, r1⟩ := trodAll_cons r0
  obtain ⟨rfl, rfl, rfl⟩ := trodAll_nil r1
  obtain rfl : args = #[v0, v1] := by cases args; simp_all
  obtain ⟨rfl, rfl⟩ := trodVars_none hV
  have k0 := h0
  have k1 := h1
  have lt0 : ∀ x ∈ p0, x.block < W.heap.size := by obtain ⟨m, hm⟩ := k0; exact DataW.trod_lt m _ _ _ hm
  have lt1 : ∀ x ∈ p1, x.block < W.heap.size := by obtain ⟨m, hm⟩ := k1; exact DataW.trod_lt m _ _ _ hm
  obtain ⟨xs, hr, hx⟩ := E.open_rdP (α := E.TdR) Try.underlying38 (by kernel_rfl) (by decide) dec_told (hval 0 _ _ rfl rfl) h0
  obtain ⟨ys, hq, hy⟩ := E.open_rdP (α := E.TdR) Try.underlying38 (by kernel_rfl) (by decide) dec_told (hval 1 _ _ rfl rfl) h1
  obtain ⟨ts, l1, e1⟩ := E.told_list _ xs hx
  obtain ⟨ss, l2, e2⟩ := E.told_list _ ys hy
  clear hA0 hval0
  refine (E.c_law_ToldSame v0 v1 ts ss W ⟨xs, hr, l1, e1⟩ ⟨ys, hq, l2, e2⟩).mono fun e W' ⟨_, he, bel0⟩ => ?_
  have bel := bel0.below
  subst he
  exact ⟨_, rfl, _, _, _, [], _, [], hW', trodAll_mk1 (shut_bool Try.underlying4 _), (trodAll_cons_mk (Below.trod laidOut (by kernel_rfl) (of_decide_eq_true (by kernel_rfl)) k0 bel lt0) (trodAll_cons_mk (Below.trod laidOut (by kernel_rfl) (of_decide_eq_true (by kernel_rfl)) k1 bel lt1) trodAll_mk0)), rfl, bel.frame _, fun h => by cases h⟩
theorem over : Rows.fnExactToldSameRow.holds Try.pinned (OpenSpec.ofChange Rows.fnExactToldSameSpec) :=
  OpenClaim.holds_of_wide 5 Try.f5 rfl rfl rfl rfl rfl rfl rfl ⟨rfl, rfl, rfl, rfl, rfl⟩ rfl rfl rfl rfl rfl (by kernel_rfl) Try.func5 (by kernel_rfl)
    (of_decide_eq_true (by kernel_rfl)) (by unfold Func.isWrapper; first | (rw [if_pos (by decide +kernel)]; kernel_rfl) | (rw [if_neg (by decide +kernel)]; exact ⟨rfl, rfl⟩))
    (fun os started H enc _ => lifted os started H enc)
/-- The statement. -/
theorem proved : Rows.FnExactToldSameSaid := over
#print axioms proved
end RowTs
end Go.Proofs.Ytbplkdibjjcomaa
