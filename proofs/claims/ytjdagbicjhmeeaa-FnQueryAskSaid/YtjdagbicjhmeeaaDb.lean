/- Data with lists within: pools, graphs, worlds; contracts of the laws' helpers. -/
import Derived.Test.YtjdagbicjhmeeaaDa
namespace Go.Proofs.Ytjdagbicjhmeeaa
namespace E
open Go Go.RowKit
set_option linter.unusedSimpArgs false
set_option linter.unusedVariables false
set_option maxHeartbeats 1000000
set_option maxRecDepth 10000
attribute [local irreducible] HC HL HQ HX HO At Y YV Opd Opds KnX Sl Ld Src GV RV Calls Code.wp eptr adr RdF ownF OneX HG LdC
structure PlR where
  z : Int
  s : Sv
structure Pl where
  z : Int
  l : List Pg
  deriving DecidableEq
instance : Flat PlR := ⟨2, fun x => [.int .i64 x.z, .slice x.s.a x.s.n x.s.c], fun _ => rfl, fun _ u h => by simp only [List.mem_cons, List.mem_nil_iff, or_false] at h; (repeat' (rcases h with rfl | h)) <;> first | rfl | (subst h; rfl)⟩
instance (z : Int) (A : Option Addr) (n c : Nat) : MkI PlR [.int .i64 z, .slice A n c] ⟨z, ⟨A, n, c⟩⟩ := ⟨rfl⟩
instance : ElT Try.prog 179 PlR := ⟨trivial⟩
instance : Nst Pl PlR Pg := ⟨(·.s), (·.l), fun x d => x.z = d.z⟩
/-- Pages that two calls of a kind add up. -/
def psum (ps : List Pl) (k : Nat) : Nat := ((ps.take k).map (·.l.length)).sum
def tot (ps : List Pl) : Nat := ps.length + psum ps ps.length
theorem psum_step {ps : List Pl} {k : Nat} {p : Pl} (h : ps[k]? = some p) : psum ps (k + 1) = psum ps k + p.l.length := by
  simp [psum, List.take_add_one, h]
theorem psum_le (ps : List Pl) (k : Nat) : psum ps k ≤ psum ps ps.length := by
  unfold psum
  rw [List.take_length]
  conv => rhs; rw [← List.take_append_drop k ps, List.map_append, List.sum_append]
  omega
theorem tot_bounds {ps : List Pl} {k : Nat} (h : tot ps ≤ k) : ps.length ≤ k ∧ ∀ p ∈ ps, p.l.length ≤ k := by
  refine ⟨by unfold tot at h; omega, fun p hp => ?_⟩
  obtain ⟨i, hi⟩ := List.getElem?_of_mem hp
  have h1 := psum_step hi
  have h2 := psum_le ps (i + 1)
  unfold tot at h
  omega
theorem ks_snoc {k : Ck} {L K : List Ck} : KSub (k :: (L ++ K)) ((L ++ [k]) ++ K) := KSub.ofPerm _ _ (by rw [List.append_assoc]; exact List.perm_middle.symm)
theorem ks_nil {L : List Ck} : KSub (L ++ []) L := by rw [List.append_nil]; exact KSub.refl _
abbrev PlZ : PlR := ⟨0, ⟨none, 0, 0⟩⟩
end E
end Go.Proofs.Ytjdagbicjhmeeaa
