/- An append whose answer is told as a slice. -/
import Derived.Test.YtjdagbicjhmeeaaUc
namespace Go.Proofs.Ytjdagbicjhmeeaa
namespace E
open Go Go.RowKit
set_option linter.unusedSimpArgs false
set_option linter.unusedVariables false
set_option maxHeartbeats 1000000
set_option maxRecDepth 10000
attribute [local irreducible] HC HL HQ HX HO At Y YV Opd Opds KnX Sl Ld Src GV RV Calls Code.wp eptr adr RdF ownF OneX HG LdC
theorem at_sv {N : Nat} {w0 : World} {Kn : Act → World → Prop} {d : Nat} {F : List (Nat × En)} {e : TypeId} {α : Type} [Flat α] {zs : List α} {K' : List Ck} (h : ∀ s : Sv, At N w0 Kn ((d, .pl (.slice s.a s.n s.c)) :: F) (ownF e (.slice s.a s.n s.c) zs :: K')) : ∀ v' : Value, v'.oneCell' = true → At N w0 Kn ((d, .pl v') :: F) (ownF e v' zs :: K') := by
  intro v' _
  unfold At
  intro a w ha hw
  obtain ⟨A, c, hv, _⟩ := (RdF.of_own (List.mem_cons_self) hw : RdF w v' zs).isl
  subst hv
  have h2 := h ⟨A, zs.length, c⟩
  unfold At at h2
  exact h2 a w ha hw
theorem aps {P : Program} {N : Nat} {w0 : World} {K K' : List Ck} {F : List (Nat × En)} {Q : Exit → Act → World → Prop} {ops : Array Oper} {rest : List Oper} {d : Nat} {t ty : TypeId} {pos : String} {af : Array Edge} {m m' : Md} {x y : Operand} {v u : Value} {α : Type} [Flat α] {e : TypeId} {xs ys : List α} {sz bytes : Nat} [T : TSlc P t e] [R : TRow P e sz bytes] (hr : ∀ s : Sv, HG P N w0 ops Q m' rest ((d, .pl (.slice s.a s.n s.c)) :: F) (ownF e (.slice s.a s.n s.c) (xs ++ ys) :: K')) (hN : d < N := by decide) (hx : Opd N F true x v := by exact Opd.pl rfl) (hy : Opd N F true y u := by exact Opd.pl rfl) (hp : Pick K (ownF e v xs) K' := by exact pk) (hs : Src w0 K' (Flat.k α) u ys.length (cells ys) := by first | exact Src.rdF (by assumption) | exact Src.ownF mm) (hb : (xs.length + ys.length) * bytes ≤ 140737488355328 ∧ xs.length + ys.length ≤ maxLen := by first | (simp only [maxLen]; omega) | (simp only [List.length_append, List.length_cons, List.length_nil, maxLen] at *; omega)) (hsz : sz = Flat.k α := by rfl) (hX : NX m m' := by first | exact NX.l | exact NX.q | exact NX.x _ _ _ _ | exact NX.y _ _ _ _) (hA : KA ops m := by first | exact KA.l | exact KA.y | exact KA.x (by decide +kernel)) (hB : ∀ (z : Sv), KB ops m (ownF e (.slice z.a z.n z.c) (xs ++ ys) :: K') := by first | exact fun _ => KB.l | exact fun _ => KB.x (Or.inr ks) | exact fun _ => KB.x (Or.inl (by decide +kernel)) | exact fun _ => KB.y (Or.inr ks) | exact fun _ => KB.y (Or.inl (by decide +kernel))) :
    HG P N w0 ops Q m (⟨some d, .call { callee := .builtin .append, args := #[x, y], argTypes := #[t, t] }, ty, pos, af, none⟩ :: rest) F K := hgo (Fi := fun s : Sv => (d, .pl (.slice s.a s.n s.c)) :: F) (Ki := fun s : Sv => ownF e (.slice s.a s.n s.c) (xs ++ ys) :: K') hA hB hX rfl hr (fun Q' Kn hk => ho_app hsz hN hx hy hp hs hb (at_sv hk))
end E
end Go.Proofs.Ytjdagbicjhmeeaa
