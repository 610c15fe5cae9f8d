/- What reads at the laws' types is data. -/
import Derived.Test.YtpiiapoafmnhhaaGreatM17
import Derived.ProofKit
namespace Go.Proofs.YtpiiapoafmnhhaaGreat
namespace E
open Go.ChangeShapes Go.WideShapes Go.ChangeAt Go.RowKit Go.Joins Go.Deep
set_option linter.unusedVariables false
theorem rowOwn : ownKnob Tryz.prog.godebug = none := by kernel_rfl
theorem rowLaid : laidOutB Tryz.prog = true := by kernel_rfl
section
variable {H : Type} {enc : TypeId × Value → H} {W : World} {base : Nat} {spare : Nat → Bool} {held : Bool}
theorem dstep {cs A : List Value} {o k : Nat} (h : (cs.drop o).take k = A) : cs.drop o = A ++ cs.drop (o + k) := by
  rw [← h, ← List.drop_drop]; exact (List.take_append_drop k (cs.drop o)).symm
theorem split2 {cs A B : List Value} {o0 k0 o1 k1 n : Nat} (e0 : (cs.drop o0).take k0 = A) (e1 : (cs.drop o1).take k1 = B) (hl : cs.length = n) (h0 : o0 = 0) (h1 : o1 = o0 + k0) (hk : o1 + k1 = n) : cs = A ++ B := by
  have s0 := dstep e0
  have s1 := dstep e1
  rw [← h1, s1, h0, List.drop_zero, hk, show cs.drop n = [] from List.drop_eq_nil_of_le (by omega), List.append_nil] at s0
  exact s0
theorem dec_int : Dec enc Tryz.prog W base spare held 3 Int := fun n cs y h => by
  obtain ⟨a, ea, _, _⟩ := DataW.trod_int Tryz.underlying3 h
  exact ⟨a, ea⟩
theorem dec_node : Dec enc Tryz.prog W base spare held 24 Nd := fun n cs y h => by
  obtain ⟨y0, y1, m, _, hl, h0, h1⟩ := trod_struct2 Tryz.underlying24 h
  obtain ⟨a, ea⟩ := dec_int _ _ _ h0
  obtain ⟨b, eb⟩ := dec_int _ _ _ h1
  exact ⟨⟨a, b⟩, split2 ea eb hl rfl (by kernel_rfl) (by kernel_rfl)⟩
theorem dec_page : Dec enc Tryz.prog W base spare held 183 Pg := fun n cs y h => by
  obtain ⟨y0, y1, m, _, hl, h0, h1⟩ := trod_struct2 Tryz.underlying183 h
  obtain ⟨a, ea⟩ := dec_int _ _ _ h0
  obtain ⟨b, eb⟩ := dec_int _ _ _ h1
  exact ⟨⟨a, b⟩, split2 ea eb hl rfl (by kernel_rfl) (by kernel_rfl)⟩
theorem dec_pool : DecP enc Tryz.prog W base spare held 77 PlR (fun x => ∃ p : Pl, x.z = p.z ∧ RdF W (.slice x.s.a x.s.n x.s.c) p.l) := fun n cs y h => by
  obtain ⟨y0, y1, m, _, hl, h0, h1⟩ := trod_struct2 Tryz.underlying77 h
  obtain ⟨a, ea⟩ := dec_int _ _ _ h0
  obtain ⟨s, xs, eb, hr, _⟩ := open_cellsP Tryz.underlying75 (by kernel_rfl) (by decide) (Dec.p dec_page) h1
  exact ⟨⟨a, s⟩, split2 ea eb hl rfl (by kernel_rfl) (by kernel_rfl), ⟨a, xs⟩, rfl, hr⟩
end
end E
end Go.Proofs.YtpiiapoafmnhhaaGreat
