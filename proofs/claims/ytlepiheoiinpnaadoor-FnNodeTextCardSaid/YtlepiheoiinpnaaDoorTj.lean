/- FnNodeText: nodes are read back exactly as written. -/
import Derived.Test.YtlepiheoiinpnaaDoorTi
namespace Go.Proofs.YtlepiheoiinpnaaDoor
namespace E
open Go Go.RowKit
set_option linter.unusedSimpArgs false
set_option linter.unusedVariables false
set_option maxHeartbeats 1000000
set_option maxRecDepth 10000
attribute [local irreducible] HC HL HQ HX HO At Y YV Opd Opds KnX Sl Ld Src GV RV Calls Code.wp eptr adr RdF ownF OneX HG LdC
/-- What is read of a node's own text. -/
theorem back {x y : Nd} {b : Bool} (h : NodeP (ntx x) y b) : b = nok x ∧ (b = true → y = x) := by
  cases hx : nok x with
  | true =>
    cases b with
    | true => exact ⟨rfl, fun _ => (ntx_inj hx (h.1 rfl).1 (h.1 rfl).2).symm⟩
    | false => exact absurd rfl ((h.2 rfl).2 x hx)
  | false =>
    cases b with
    | true =>
      exfalso
      have h1 := (h.1 rfl)
      have h2 : ntx x = [] := if_neg (by rw [hx]; decide)
      have h3 := ntx_dot h1.1
      rw [← h1.2, h2] at h3
      cases h3
    | false => exact ⟨rfl, fun h => Bool.noConfusion h⟩
theorem ntx_le (x : Nd) : (ntx x).length ≤ 1000 := by
  cases hx : nok x with
  | true =>
    obtain ⟨l, n, t, rfl, hn, ht, e⟩ := ntx_to hx
    have h1 := lbt_len ht
    have h2 := dec_len (n := n) (by omega)
    rw [e]
    simp only [List.length_append, List.length_cons]
    omega
  | false =>
    have h2 : ntx x = [] := if_neg (by rw [hx]; decide)
    rw [h2]; simp
theorem c_law_NodeTexts {u v : Value} {xs ys : List UInt8} (w : World) (hg : Gl2 w) (hr : RdF w u xs) (hq : RdF w v ys) : Calls Tryd.prog 5 #[u, v] w (Ret (fun _ : Unit => .bool true) (fun _ => []) w) := by
  have o1 := hr.one
  have o2 := hq.one
  refine enter (args := _) Tryd.func5 rfl Tryd.ntmps5 (by simp) ?_
  repeat' (first | refine E.st ?_ | refine E.cm (h := fun w hw => c_DrawNodeText w (hr.now hw)) (k := fun z0 => ?_) | refine E.cm (h := fun w hw => c_DrawNodeRead w (hq.now hw)) (k := fun z1 => ?_) | refine E.cl (h := fun _ w hw => c_i_NodeText w (hg.now hw).1) (k := ?_) | refine E.cl (h := fun _ w hw => c_s_NodeText w) (k := ?_) | refine E.cm (h := fun w hw => c_i_NodeRead w (by have := ntx_le ⟨z0.1, z0.2⟩; omega) (hg.now hw)) (k := fun z2 => E.wy z2.2 (fun h2 => ?_)) | refine E.cm (h := fun w hw => c_i_NodeRead (s := z1.1) w (by have := z1.2; omega) (hg.now hw)) (k := fun z3 => E.wy z3.2 (fun h3 => ?_)) | refine E.cm (h := fun w hw => c_s_NodeRead (s := z1.1) w (by have := z1.2; omega)) (k := fun z4 => E.wy z4.2 (fun h4 => ?_)) | refine E.cl (h := fun _ w _ => c_i_NodeOk w) (k := ?_) | refine E.q3 ?_ | refine E.q ?_ | refine E.qs ?_ | refine E.q2 ?_ | refine E.q4 ?_ | refine E.tr ?_ | refine E.ap (fun _ _ => ?_) | refine E.b1 (fun _ _ => ?_) | refine E.b0 (fun _ _ => ?_) | refine E.bsn (fun _ _ => ?_) | refine E.mk (fun _ _ => ?_) | refine E.bxO (fun _ => ?_) | refine E.al (fun _ => ?_) | refine E.sbO ?_ | refine E.dq ?_ | refine E.ct ?_ | refine E.cf ?_ | refine E.cs (fun hh => ?_) (fun hh => ?_) | refine E.at_block_other rfl ?_)
  · exact rb
  · rename_i _ y hy _ _ _
    obtain ⟨e1, e2⟩ := back hy
    obtain ⟨e3, e4⟩ := NodeP.one h2 h4
    have e5 : z2.1.2 = true → tx (ntx ⟨z2.1.1.l, z2.1.1.n⟩) = tx z1.1 := fun h => by
      have := (h2.1 h).2
      exact congrArg tx this.symm
    refine rb ?_
    cases hb : y.1.2 <;> cases hc : z2.1.2 <;> simp_all
end E
end Go.Proofs.YtlepiheoiinpnaaDoor
