/- FnExactNodeRead: the program's reading of a node and the reference's are the same. -/
import Derived.Test.YtlepiheoiinpnaaDoorTg
namespace Go.Proofs.YtlepiheoiinpnaaDoor
namespace E
open Go Go.RowKit
set_option linter.unusedSimpArgs false
set_option linter.unusedVariables false
set_option maxHeartbeats 1000000
set_option maxRecDepth 10000
attribute [local irreducible] HC HL HQ HX HO At Y YV Opd Opds KnX Sl Ld Src GV RV Calls Code.wp eptr adr RdF ownF OneX HG LdC
theorem ntx_dot {y : Nd} (h : nok y = true) : 46 ∈ ntx y := by
  obtain ⟨l, n, t, rfl, hn, ht, e⟩ := ntx_to h
  rw [e]; simp
theorem NodeP.no {s : List UInt8} (h : ∀ y : Nd, nok y = true → s ≠ ntx y) : NodeP s ⟨0, 0⟩ false := ⟨fun h => Bool.noConfusion h, fun _ => ⟨rfl, h⟩⟩
theorem NodeP.yes {s : List UInt8} {x : Nd} (h : nok x = true) (e : s = ntx x) : NodeP s x true := ⟨fun _ => ⟨h, e⟩, fun h => Bool.noConfusion h⟩
theorem c_i_NodeRead {s : List UInt8} (w : World) (hl : s.length ≤ 1048576) (hg : Gl2 w) : Calls Tryd.prog 10 #[.string (tx s)] w (Ret (fun z : { p : Nd × Bool // NodeP s p.1 p.2 } => .tuple #[.agg #[.int .i64 z.1.1.l, .int .i64 z.1.1.n], .bool z.1.2]) (fun _ => []) w) := by
  rcases dot_cases s with hno | ⟨a, r, ha, rfl⟩
  · have hn : NodeP s ⟨0, 0⟩ false := NodeP.no (fun y hy e => hno (by rw [e]; exact ntx_dot hy))
    refine enter (args := _) Tryd.func10 rfl Tryd.ntmps10 (by simp) ?_
    repeat' (first | refine E.st ?_ | refine E.cl (h := fun _ w _ => c_Cut_no w hno) (k := ?_) | refine E.q3 ?_ | refine E.q ?_ | refine E.qs ?_ | refine E.q2 ?_ | refine E.q4 ?_ | refine E.tr ?_ | refine E.ap (fun _ _ => ?_) | refine E.b1 (fun _ _ => ?_) | refine E.b0 (fun _ _ => ?_) | refine E.bsn (fun _ _ => ?_) | refine E.mk (fun _ _ => ?_) | refine E.bxO (fun _ => ?_) | refine E.al (fun _ => ?_) | refine E.sbO ?_ | refine E.dq ?_ | refine E.ct ?_ | refine E.cf ?_ | refine E.cs (fun hh => ?_) (fun hh => ?_) | refine E.at_block_other rfl ?_)
    exact rn (α := { p : Nd × Bool // NodeP s p.1 p.2 }) ⟨(⟨0, 0⟩, false), hn⟩
  · refine enter (args := _) Tryd.func10 rfl Tryd.ntmps10 (by simp) ?_
    repeat' (first | refine E.st ?_ | refine E.cl (h := fun _ w _ => c_Cut_yes w ha (by omega)) (k := ?_) | refine E.cm (h := fun w hw => c_i_LabelRead w (hg.now hw).1) (k := fun z1 => E.wy z1.2 (fun hz1 => ?_)) | refine E.cm (h := fun w hw => c_i_numRead w (hg.now hw)) (k := fun z2 => E.wy z2.2 (fun hz2 => ?_)) | refine E.cl (h := fun _ w _ => c_i_NodeOk w) (k := ?_) | refine E.q3 ?_ | refine E.q ?_ | refine E.qs ?_ | refine E.q2 ?_ | refine E.q4 ?_ | refine E.tr ?_ | refine E.ap (fun _ _ => ?_) | refine E.b1 (fun _ _ => ?_) | refine E.b0 (fun _ _ => ?_) | refine E.bsn (fun _ _ => ?_) | refine E.mk (fun _ _ => ?_) | refine E.bxO (fun _ => ?_) | refine E.al (fun _ => ?_) | refine E.sbO ?_ | refine E.dq ?_ | refine E.ct ?_ | refine E.cf ?_ | refine E.cs (fun hh => ?_) (fun hh => ?_) | refine E.at_block_other rfl ?_)
    · refine rn (α := { p : Nd × Bool // NodeP (a ++ 46 :: r) p.1 p.2 }) ⟨(⟨0, 0⟩, false), NodeP.no (fun y hy e => ?_)⟩
      obtain ⟨e1, e2, e3⟩ := node_no ha hz1 hz2 hy e
      rw [e3] at hy
      simp_all
    · have hb : z1.1.2 = true := by cases h : z1.1.2 <;> simp_all
      have hc : z2.1.2 = true := by cases h : z2.1.2 <;> simp_all
      have hk : nok ⟨(z1.1.1 : Int), z2.1.1⟩ = true := by cases h : nok ⟨(z1.1.1 : Int), z2.1.1⟩ <;> simp_all
      exact rn (α := { p : Nd × Bool // NodeP (a ++ 46 :: r) p.1 p.2 }) ⟨(⟨(z1.1.1 : Int), z2.1.1⟩, true), NodeP.yes hk (node_yes hz1 hz2 hb hc hk)⟩
theorem c_s_NodeRead {s : List UInt8} (w : World) (hl : s.length ≤ 1048576) : Calls Tryd.prog 9 #[.string (tx s)] w (Ret (fun z : { p : Nd × Bool // NodeP s p.1 p.2 } => .tuple #[.agg #[.int .i64 z.1.1.l, .int .i64 z.1.1.n], .bool z.1.2]) (fun _ => []) w) := by
  by_cases h2 : ∃ a b, pcs s = [a, b]
  · obtain ⟨a, b, hp⟩ := h2
    have hj := pcs_ok s
    rw [hp] at hj
    obtain ⟨hj1, hj2⟩ := hj
    have ha : 46 ∉ a := hj2 a (by simp)
    have hs : s = a ++ 46 :: b := by
      have : (a ++ 46 :: b) ++ [46] = s ++ [46] := by rw [← hj1]; simp [joinD]
      exact (List.append_cancel_right this).symm
    have hbl : b.length ≤ 1048576 := by rw [hs] at hl; simp at hl; omega
    have c_cut : ∀ w, Calls Tryd.prog 20 #[.string (tx s), .int .u8 46] w (Ret (fun z : { v' : Value // v'.oneCell' = true } => z.1) (fun z => [ownF 9 z.1 [tx a, tx b]]) w) := fun w => by
      have := c_s_l9Cut (s := s) w hl
      rw [hp] at this
      exact this
    have g0 : [tx a, tx b][0]? = some (tx a) := rfl
    have g1 : [tx a, tx b][1]? = some (tx b) := rfl
    refine enter (args := _) Tryd.func9 rfl Tryd.ntmps9 (by simp) ?_
    repeat' (first | refine E.st ?_ | refine E.cm (h := fun w _ => c_cut w) (k := fun z => ?_) | refine E.cm (h := fun w hw => c_s_LabelRead w) (k := fun z1 => E.wy z1.2 (fun hz1 => ?_)) | refine E.cm (h := fun w hw => c_s_l9Num w hbl) (k := fun z2 => E.wy z2.2 (fun hz2 => ?_)) | refine E.cl (h := fun _ w _ => c_s_NodeText w) (k := ?_) | refine E.q3 ?_ | refine E.q ?_ | refine E.qs ?_ | refine E.q2 ?_ | refine E.q4 ?_ | refine E.tr ?_ | refine E.ap (fun _ _ => ?_) | refine E.b1 (fun _ _ => ?_) | refine E.b0 (fun _ _ => ?_) | refine E.bsn (fun _ _ => ?_) | refine E.mk (fun _ _ => ?_) | refine E.bxO (fun _ => ?_) | refine E.al (fun _ => ?_) | refine E.sbO ?_ | refine E.dq ?_ | refine E.ct ?_ | refine E.cf ?_ | refine E.cs (fun hh => ?_) (fun hh => ?_) | refine E.at_block_other rfl ?_)
    · exfalso; simp at hh
    · refine rn (α := { p : Nd × Bool // NodeP s p.1 p.2 }) ⟨(⟨0, 0⟩, false), NodeP.no (fun y hy e => ?_)⟩
      obtain ⟨e1, e2, e3⟩ := node_no ha hz1 hz2 hy (by rw [← hs]; exact e)
      have e4 : tx (ntx ⟨(z1.1.1 : Int), z2.1.1⟩) = tx s := by rw [← e3, e]
      simp_all
    · have e4 : tx (ntx ⟨(z1.1.1 : Int), z2.1.1⟩) = tx s := by
        apply Classical.byContradiction
        intro h
        simp_all
      have e5 := tx_inj.1 e4
      have hk : nok ⟨(z1.1.1 : Int), z2.1.1⟩ = true := by
        cases h : nok ⟨(z1.1.1 : Int), z2.1.1⟩ with
        | true => rfl
        | false =>
          have : ntx ⟨(z1.1.1 : Int), z2.1.1⟩ = [] := if_neg (by rw [h]; decide)
          rw [this] at e5
          rw [hs] at e5
          simp at e5
      exact rn (α := { p : Nd × Bool // NodeP s p.1 p.2 }) ⟨(⟨(z1.1.1 : Int), z2.1.1⟩, true), NodeP.yes hk e5.symm⟩
  · have hn : NodeP s ⟨0, 0⟩ false := NodeP.no (fun y hy e => by
      obtain ⟨l, n, t, rfl, hn, ht, e'⟩ := ntx_to hy
      refine h2 ⟨t, Lib.decDigits n, (pcs_eq ?_ ?_).symm⟩
      · rw [e, e']; simp [joinD]
      · intro p hp
        simp only [List.mem_cons, List.mem_nil_iff, or_false] at hp
        rcases hp with rfl | rfl
        · exact lbt_dot ht
        · exact dec_dot n)
    have hlen : ¬ ((pcs s).map tx).length = 2 := by
      rw [List.length_map]
      intro h
      match hps : pcs s, h with
      | [a, b], _ => exact h2 ⟨a, b, hps⟩
    refine enter (args := _) Tryd.func9 rfl Tryd.ntmps9 (by simp) ?_
    repeat' (first | refine E.st ?_ | refine E.cm (h := fun w _ => c_s_l9Cut w hl) (k := fun z => ?_) | refine E.q3 ?_ | refine E.q ?_ | refine E.qs ?_ | refine E.q2 ?_ | refine E.q4 ?_ | refine E.tr ?_ | refine E.ap (fun _ _ => ?_) | refine E.b1 (fun _ _ => ?_) | refine E.b0 (fun _ _ => ?_) | refine E.bsn (fun _ _ => ?_) | refine E.mk (fun _ _ => ?_) | refine E.bxO (fun _ => ?_) | refine E.al (fun _ => ?_) | refine E.sbO ?_ | refine E.dq ?_ | refine E.ct ?_ | refine E.cf ?_ | refine E.cs (fun hh => ?_) (fun hh => ?_) | refine E.at_block_other rfl ?_)
    exact rn (α := { p : Nd × Bool // NodeP s p.1 p.2 }) ⟨(⟨0, 0⟩, false), hn⟩
theorem c_law_NodeRead {u : ByteArray} (w : World) (hg : Gl2 w) : Calls Tryd.prog 4 #[.string u] w (Ret (fun _ : Unit => .bool true) (fun _ => []) w) := by
  obtain ⟨s, rfl⟩ : ∃ s, u = tx s := ⟨u.data.toList, (tx_data u).symm⟩
  have hsz := tx_size s
  by_cases hl : s.length ≤ 1048576
  · refine enter (args := _) Tryd.func4 rfl Tryd.ntmps4 (by simp) ?_
    repeat' (first | refine E.st ?_ | refine E.cm (h := fun w _ => c_s_NodeRead w hl) (k := fun z1 => E.wy z1.2 (fun hz1 => ?_)) | refine E.cm (h := fun w hw => c_i_NodeRead w hl (hg.now hw)) (k := fun z2 => E.wy z2.2 (fun hz2 => ?_)) | refine E.cl (h := fun _ w _ => c_eqNode w) (k := ?_)  | refine E.q3 ?_ | refine E.q ?_ | refine E.qs ?_ | refine E.q2 ?_ | refine E.q4 ?_ | refine E.tr ?_ | refine E.ap (fun _ _ => ?_) | refine E.b1 (fun _ _ => ?_) | refine E.b0 (fun _ _ => ?_) | refine E.bsn (fun _ _ => ?_) | refine E.mk (fun _ _ => ?_) | refine E.bxO (fun _ => ?_) | refine E.al (fun _ => ?_) | refine E.sbO ?_ | refine E.dq ?_ | refine E.ct ?_ | refine E.cf ?_ | refine E.cs (fun hh => ?_) (fun hh => ?_) | refine E.at_block_other rfl ?_)
    · exfalso
      obtain ⟨e1, e2⟩ := NodeP.one hz1 hz2
      simp_all
    · exact rb
  · refine enter (args := _) Tryd.func4 rfl Tryd.ntmps4 (by simp) ?_
    repeat' (first | refine E.st ?_ | refine E.q3 ?_ | refine E.q ?_ | refine E.qs ?_ | refine E.q2 ?_ | refine E.q4 ?_ | refine E.tr ?_ | refine E.ap (fun _ _ => ?_) | refine E.b1 (fun _ _ => ?_) | refine E.b0 (fun _ _ => ?_) | refine E.bsn (fun _ _ => ?_) | refine E.mk (fun _ _ => ?_) | refine E.bxO (fun _ => ?_) | refine E.al (fun _ => ?_) | refine E.sbO ?_ | refine E.dq ?_ | refine E.ct ?_ | refine E.cf ?_ | refine E.cs (fun hh => ?_) (fun hh => ?_) | refine E.at_block_other rfl ?_)
    all_goals first
      | exact rb
      | (exfalso; simp_all; omega)
end E
end Go.Proofs.YtlepiheoiinpnaaDoor
