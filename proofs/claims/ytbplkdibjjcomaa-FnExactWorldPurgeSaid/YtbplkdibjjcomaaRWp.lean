/- FnExactWorldPurge: for whatever people and events, the program keeps what the reference keeps, in memory of its own. No condition. -/
import Derived.Test.YtbplkdibjjcomaaLWq
import Derived.Test.YtbplkdibjjcomaaOpn
import Derived.Test.YtbplkdibjjcomaaRows
import Derived.ProofKit
namespace Go.Proofs.Ytbplkdibjjcomaa
namespace RowWp
open Go.ChangeShapes Go.WideShapes Go.ChangeAt Go.RowKit Go.Joins Go.Deep
set_option linter.unusedVariables false
theorem own : ownKnob Try.prog.godebug = none := by kernel_rfl
theorem laidOut : laidOutB Try.prog = true := by kernel_rfl
section
variable {H : Type} {enc : TypeId × Value → H} {W : World} {base : Nat} {spare : Nat → Bool} {held : Bool}
theorem dstep {cs A : List Value} {o k : Nat} (h : (cs.drop o).take k = A) : cs.drop o = A ++ cs.drop (o + k) := by
  rw [← h, ← List.drop_drop]; exact (List.take_append_drop k (cs.drop o)).symm
theorem split2 {cs A B : List Value} {o0 k0 o1 k1 n : Nat} (e0 : (cs.drop o0).take k0 = A) (e1 : (cs.drop o1).take k1 = B) (hl : cs.length = n) (h0 : o0 = 0) (h1 : o1 = o0 + k0) (hk : o1 + k1 = n) : cs = A ++ B := by
  have s0 := dstep e0
  have s1 := dstep e1
  rw [← h1, s1, h0, List.drop_zero, hk, show cs.drop n = [] from List.drop_eq_nil_of_le (by omega), List.append_nil] at s0
  exact s0
theorem split3 {cs A B C : List Value} {o0 k0 o1 k1 o2 k2 n : Nat} (e0 : (cs.drop o0).take k0 = A) (e1 : (cs.drop o1).take k1 = B) (e2 : (cs.drop o2).take k2 = C) (hl : cs.length = n) (h0 : o0 = 0) (h1 : o1 = o0 + k0) (h2 : o2 = o1 + k1) (hk : o2 + k2 = n) : cs = A ++ (B ++ C) := by
  have s0 := dstep e0
  have s1 := dstep e1
  have s2 := dstep e2
  rw [hk, show cs.drop n = [] from List.drop_eq_nil_of_le (by omega), List.append_nil] at s2
  rw [← h2, s2] at s1
  rw [← h1, s1, h0, List.drop_zero] at s0
  exact s0
theorem split4 {cs A B C D : List Value} {o0 k0 o1 k1 o2 k2 o3 k3 n : Nat} (e0 : (cs.drop o0).take k0 = A) (e1 : (cs.drop o1).take k1 = B) (e2 : (cs.drop o2).take k2 = C) (e3 : (cs.drop o3).take k3 = D) (hl : cs.length = n) (h0 : o0 = 0) (h1 : o1 = o0 + k0) (h2 : o2 = o1 + k1) (h3 : o3 = o2 + k2) (hk : o3 + k3 = n) : cs = A ++ (B ++ (C ++ D)) := by
  have s0 := dstep e0
  have s1 := dstep e1
  have s2 := dstep e2
  have s3 := dstep e3
  rw [hk, show cs.drop n = [] from List.drop_eq_nil_of_le (by omega), List.append_nil] at s3
  rw [← h3, s3] at s2
  rw [← h2, s2] at s1
  rw [← h1, s1, h0, List.drop_zero] at s0
  exact s0
theorem dec_int : E.Dec enc Try.prog W base spare held 3 Int := fun n cs y h => by
  obtain ⟨a, ea, _, _⟩ := DataW.trod_int Try.underlying3 h
  exact ⟨a, ea⟩
theorem dec_node : E.Dec enc Try.prog W base spare held 29 E.Nd := fun n cs y h => by
  obtain ⟨y0, y1, m, _, hl, h0, h1⟩ := trod_struct2 Try.underlying29 h
  obtain ⟨a, ea⟩ := dec_int _ _ _ h0
  obtain ⟨b, eb⟩ := dec_int _ _ _ h1
  exact ⟨⟨a, b⟩, split2 ea eb hl rfl (by kernel_rfl) (by kernel_rfl)⟩
theorem dec_edge : E.Dec enc Try.prog W base spare held 81 E.Eg := fun n cs y h => by
  obtain ⟨y0, y1, y2, m, _, hl, h0, h1, h2⟩ := trod_struct3 Try.underlying81 h
  obtain ⟨a, ea⟩ := dec_int _ _ _ h0
  obtain ⟨b, eb⟩ := dec_node _ _ _ h1
  obtain ⟨c, ec⟩ := dec_node _ _ _ h2
  exact ⟨⟨a, b, c⟩, split3 ea eb ec hl rfl (by kernel_rfl) (by kernel_rfl) (by kernel_rfl)⟩
theorem dec_op : E.Dec enc Try.prog W base spare held 83 E.Opn := fun n cs y h => by
  obtain ⟨y0, y1, y2, m, _, hl, h0, h1, h2⟩ := trod_struct3 Try.underlying83 h
  obtain ⟨a, ea⟩ := dec_int _ _ _ h0
  obtain ⟨b, eb⟩ := dec_node _ _ _ h1
  obtain ⟨c, ec⟩ := dec_edge _ _ _ h2
  exact ⟨⟨a, b, c⟩, split3 ea eb ec hl rfl (by kernel_rfl) (by kernel_rfl) (by kernel_rfl)⟩
theorem dec_query : E.Dec enc Try.prog W base spare held 31 E.Qu := fun n cs y h => by
  obtain ⟨y0, y1, m, _, hl, h0, h1⟩ := trod_struct2 Try.underlying31 h
  obtain ⟨a, ea⟩ := dec_int _ _ _ h0
  obtain ⟨b, eb⟩ := dec_node _ _ _ h1
  exact ⟨⟨a, b⟩, split2 ea eb hl rfl (by kernel_rfl) (by kernel_rfl)⟩
theorem dec_person : E.Dec enc Try.prog W base spare held 23 E.Pe := fun n cs y h => by
  obtain ⟨y0, y1, y2, m, _, hl, h0, h1, h2⟩ := trod_struct3 Try.underlying23 h
  obtain ⟨a, ea⟩ := dec_int _ _ _ h0
  obtain ⟨b, eb⟩ := dec_int _ _ _ h1
  obtain ⟨c, ec⟩ := dec_int _ _ _ h2
  exact ⟨⟨a, b, c⟩, split3 ea eb ec hl rfl (by kernel_rfl) (by kernel_rfl) (by kernel_rfl)⟩
theorem dec_ev : E.Dec enc Try.prog W base spare held 85 E.Ev := fun n cs y h => by
  obtain ⟨y0, y1, y2, y3, m, _, hl, h0, h1, h2, h3⟩ := trod_struct4 Try.underlying85 h
  obtain ⟨a, ea⟩ := dec_int _ _ _ h0
  obtain ⟨b, eb⟩ := dec_int _ _ _ h1
  obtain ⟨c, ec⟩ := dec_op _ _ _ h2
  obtain ⟨q, eq⟩ := dec_query _ _ _ h3
  exact ⟨⟨a, b, c, q⟩, split4 ea eb ec eq hl rfl (by kernel_rfl) (by kernel_rfl) (by kernel_rfl) (by kernel_rfl)⟩
end
set_option maxRecDepth 100000 in
theorem lifted (os : Os) (started : os.Started) (H : Type) (enc : TypeId × Value → H) :
    ReturnsInHanded {} Try.checked os 6 .any (Rows.fnExactWorldPurgeSpec.pre6 enc Try.prog Try.f6 Rows.fnExactWorldPurgeRow.domain false) (Rows.fnExactWorldPurgeSpec.post enc Try.prog Try.f6 false true false false) := by
  refine returnsInHanded_of_change (C := Try.checked) own started (by kernel_rfl) Try.func6
    (ChangeSpec.witness6 (enc := enc) (C := Try.checked) false ⟨#[], #[.slice none 0 0, .slice none 0 0, .int .i64 0], []⟩ 8 (by kernel_rfl) (by kernel_rfl) (by kernel_rfl) (by kernel_rfl)) ?_
  intro W base args ds gs before hval0 hW hcnd _
  have hval : ∀ (j : Nat) t v, Try.f6.params[j]? = some t → args[j]? = some v → Value.okWide Try.prog W .any base t v := hval0
  have hW' := hW
  obtain ⟨p, q, hA0, hV, rfl, hfz, hnd⟩ := hW
  have hA : DataW.TrodAll enc Try.prog W 0 (fun _ => true) true Try.f6.params.toList args.toList ds p := hA0
  rw [Try.params6] at hA hval
  obtain ⟨v0, vs0, d0, ds0, p0, q0, hargs, rfl, rfl, h0, r0⟩ := trodAll_cons hA
  obtain ⟨v1, vs1, d1, ds1, p1, q1, hargs1, rfl, rfl, h1, r1⟩ := trodAll_cons r0
  obtain ⟨v2, vs2, d2, ds2, p2, q2, hargs2, rfl, rfl, h2, r2⟩ := trodAll_cons r1
  obtain ⟨rfl, rfl, rfl⟩ := trodAll_nil r2
  obtain rfl : args = #[v0, v1, v2] := by cases args; simp_all
  obtain ⟨rfl, rfl⟩ := trodVars_none hV
  have k0 := h0
  have k1 := h1
  have k2 := h2
  have lt0 : ∀ x ∈ p0, x.block < W.heap.size := by obtain ⟨m, hm⟩ := k0; exact DataW.trod_lt m _ _ _ hm
  have lt1 : ∀ x ∈ p1, x.block < W.heap.size := by obtain ⟨m, hm⟩ := k1; exact DataW.trod_lt m _ _ _ hm
  have lt2 : ∀ x ∈ p2, x.block < W.heap.size := by obtain ⟨m, hm⟩ := k2; exact DataW.trod_lt m _ _ _ hm
  obtain ⟨ps, hr⟩ := E.open_rdF (α := E.Pe) Try.underlying44 (by kernel_rfl) (by decide) dec_person (hval 0 _ _ rfl rfl) h0
  obtain ⟨es, hq⟩ := E.open_rdF (α := E.Ev) Try.underlying45 (by kernel_rfl) (by decide) dec_ev (hval 1 _ _ rfl rfl) h1
  obtain ⟨cl, rfl⟩ := okWide_int Try.underlying3 (hval 2 _ _ rfl rfl)
  clear hA0 hval0
  refine (E.c_law_WorldPurge v0 v1 ps es cl W hr hq).mono fun e W' ⟨_, he, bel0⟩ => ?_
  have bel := bel0.below
  subst he
  exact ⟨_, rfl, _, _, _, [], _, [], hW', trodAll_mk1 (shut_bool Try.underlying4 _), (trodAll_cons_mk (Below.trod laidOut (by kernel_rfl) (of_decide_eq_true (by kernel_rfl)) k0 bel lt0) (trodAll_cons_mk (Below.trod laidOut (by kernel_rfl) (of_decide_eq_true (by kernel_rfl)) k1 bel lt1) (trodAll_cons_mk (Below.trod laidOut (by kernel_rfl) (of_decide_eq_true (by kernel_rfl)) k2 bel lt2) trodAll_mk0))), rfl, bel.frame _, fun h => by cases h⟩
theorem over : Rows.fnExactWorldPurgeRow.holds Try.pinned (OpenSpec.ofChange Rows.fnExactWorldPurgeSpec) :=
  OpenClaim.holds_of_wide 6 Try.f6 rfl rfl rfl rfl rfl rfl rfl ⟨rfl, rfl, rfl, rfl, rfl⟩ rfl rfl rfl rfl rfl (by kernel_rfl) Try.func6 (by kernel_rfl)
    (of_decide_eq_true (by kernel_rfl)) (by unfold Func.isWrapper; first | (rw [if_pos (by decide +kernel)]; kernel_rfl) | (rw [if_neg (by decide +kernel)]; exact ⟨rfl, rfl⟩))
    (fun os started H enc _ => lifted os started H enc)
/-- The statement. -/
theorem proved : Rows.FnExactWorldPurgeSaid := over
#print axioms proved
end RowWp
end Go.Proofs.Ytbplkdibjjcomaa
