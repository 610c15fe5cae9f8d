/- What reads at the laws' types is data. -/
import Derived.Test.YtjdagbicjhmeeaaOq
import Derived.ProofKit
namespace Go.Proofs.Ytjdagbicjhmeeaa
namespace E
open Go.ChangeShapes Go.WideShapes Go.ChangeAt Go.RowKit Go.Joins Go.Deep
set_option linter.unusedVariables false
theorem rowOwn : ownKnob Try.prog.godebug = none := by kernel_rfl
theorem rowLaid : laidOutB Try.prog = true := by kernel_rfl
section
variable {H : Type} {enc : TypeId × Value → H} {W : World} {base : Nat} {spare : Nat → Bool} {held : Bool}
theorem dstep {cs A : List Value} {o k : Nat} (h : (cs.drop o).take k = A) : cs.drop o = A ++ cs.drop (o + k) := by
  rw [← h, ← List.drop_drop]; exact (List.take_append_drop k (cs.drop o)).symm
theorem split2 {cs A B : List Value} {o0 k0 o1 k1 n : Nat} (e0 : (cs.drop o0).take k0 = A) (e1 : (cs.drop o1).take k1 = B) (hl : cs.length = n) (h0 : o0 = 0) (h1 : o1 = o0 + k0) (hk : o1 + k1 = n) : cs = A ++ B := by
  have s0 := dstep e0
  have s1 := dstep e1
  rw [← h1, s1, h0, List.drop_zero, hk, show cs.drop n = [] from List.drop_eq_nil_of_le (by omega), List.append_nil] at s0
  exact s0
theorem split3 {cs A B C : List Value} {o0 k0 o1 k1 o2 k2 n : Nat} (e0 : (cs.drop o0).take k0 = A) (e1 : (cs.drop o1).take k1 = B) (e2 : (cs.drop o2).take k2 = C) (hl : cs.length = n) (h0 : o0 = 0) (h1 : o1 = o0 + k0) (h2 : o2 = o1 + k1) (hk : o2 + k2 = n) : cs = A ++ (B ++ C) := by
  have s0 := dstep e0
  have s1 := dstep e1
  have s2 := dstep e2
  rw [hk, show cs.drop n = [] from List.drop_eq_nil_of_le (by omega), List.append_nil] at s2
  rw [← h2, s2] at s1
  rw [← h1, s1, h0, List.drop_zero] at s0
  exact s0
theorem split4 {cs A B C D : List Value} {o0 k0 o1 k1 o2 k2 o3 k3 n : Nat} (e0 : (cs.drop o0).take k0 = A) (e1 : (cs.drop o1).take k1 = B) (e2 : (cs.drop o2).take k2 = C) (e3 : (cs.drop o3).take k3 = D) (hl : cs.length = n) (h0 : o0 = 0) (h1 : o1 = o0 + k0) (h2 : o2 = o1 + k1) (h3 : o3 = o2 + k2) (hk : o3 + k3 = n) : cs = A ++ (B ++ (C ++ D)) := by
  have s0 := dstep e0
  have s1 := dstep e1
  have s2 := dstep e2
  have s3 := dstep e3
  rw [hk, show cs.drop n = [] from List.drop_eq_nil_of_le (by omega), List.append_nil] at s3
  rw [← h3, s3] at s2
  rw [← h2, s2] at s1
  rw [← h1, s1, h0, List.drop_zero] at s0
  exact s0
theorem dec_int : Dec enc Try.prog W base spare held 3 Int := fun n cs y h => by
  obtain ⟨a, ea, _, _⟩ := DataW.trod_int Try.underlying3 h
  exact ⟨a, ea⟩
theorem dec_node : Dec enc Try.prog W base spare held 50 Nd := fun n cs y h => by
  obtain ⟨y0, y1, m, _, hl, h0, h1⟩ := trod_struct2 Try.underlying50 h
  obtain ⟨a, ea⟩ := dec_int _ _ _ h0
  obtain ⟨b, eb⟩ := dec_int _ _ _ h1
  exact ⟨⟨a, b⟩, split2 ea eb hl rfl (by kernel_rfl) (by kernel_rfl)⟩
theorem dec_edge : Dec enc Try.prog W base spare held 113 Eg := fun n cs y h => by
  obtain ⟨y0, y1, y2, m, _, hl, h0, h1, h2⟩ := trod_struct3 Try.underlying113 h
  obtain ⟨a, ea⟩ := dec_int _ _ _ h0
  obtain ⟨b, eb⟩ := dec_node _ _ _ h1
  obtain ⟨c, ec⟩ := dec_node _ _ _ h2
  exact ⟨⟨a, b, c⟩, split3 ea eb ec hl rfl (by kernel_rfl) (by kernel_rfl) (by kernel_rfl)⟩
theorem dec_graph {n : Nat} {cs : List Value} {y : DataW H × List MemPlace} (h : DataW.trod enc Try.prog W base spare held n 49 cs = some y) : ∃ (s1 s2 : Sv) (ns : List Nd) (es : List Eg), cs = [.slice s1.a s1.n s1.c, .slice s2.a s2.n s2.c] ∧ RdF W (.slice s1.a s1.n s1.c) ns ∧ RdF W (.slice s2.a s2.n s2.c) es := by
  obtain ⟨y0, y1, m, _, hl, h0, h1⟩ := trod_struct2 Try.underlying49 h
  obtain ⟨s1, ns, ea, hr, _⟩ := open_cellsP Try.underlying46 (by kernel_rfl) (by decide) (Dec.p dec_node) h0
  obtain ⟨s2, es, eb, hq, _⟩ := open_cellsP Try.underlying47 (by kernel_rfl) (by decide) (Dec.p dec_edge) h1
  exact ⟨s1, s2, ns, es, split2 ea eb hl rfl (by kernel_rfl) (by kernel_rfl), hr, hq⟩
end
end E
end Go.Proofs.Ytjdagbicjhmeeaa
