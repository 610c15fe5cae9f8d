/- FnExactNodeText: the program's text of a node and the reference's are the same. -/
import Derived.Test.YtlepiheoiinpnaaDoorTb
import Derived.Test.YtlepiheoiinpnaaDoorShelf
namespace Go.Proofs.YtlepiheoiinpnaaDoor
namespace E
open Go Go.RowKit
set_option linter.unusedSimpArgs false
set_option linter.unusedVariables false
set_option maxHeartbeats 1000000
set_option maxRecDepth 10000
attribute [local irreducible] HC HL HQ HX HO At Y YV Opd Opds KnX Sl Ld Src GV RV Calls Code.wp eptr adr RdF ownF OneX HG LdC
/-- A node's text. -/
def ntx (x : Nd) : List UInt8 := if nok x = true then (lbt[x.l.toNat]?.getD []) ++ 46 :: Lib.decDigits x.n.toNat else []
theorem nok_nat {x : Nd} (h : nok x = true) : ∃ l n : Nat, x = ⟨(l : Int), (n : Int)⟩ ∧ n ≤ 40 ∧ ∃ s, lbt[l]? = some s := by
  obtain ⟨a, b⟩ := x
  have := nok_iff.1 h
  dsimp only at this
  refine ⟨a.toNat, b.toNat, ?_, by omega, ?_⟩
  · congr 1 <;> omega
  · exact ⟨_, List.getElem?_eq_getElem (by show _ < 8; omega)⟩
theorem lbt_len {l : Nat} {s : List UInt8} (h : lbt[l]? = some s) : s.length ≤ 3 := by
  have hm : s ∈ lbt := List.mem_of_getElem? h
  have : ∀ s ∈ lbt, s.length ≤ 3 := by decide
  exact this s hm
theorem dec_len {n : Nat} (h : n < 100) : (Lib.decDigits n).length ≤ 2 := by
  rcases Nat.lt_or_ge n 10 with h1 | h1
  · rw [Lib.decDigits_one h1]; simp
  · rw [Lib.decDigits_two (by omega) h]; simp
theorem c_i_Itoa {n : Nat} (w : World) (hn : n < 100) : Calls Tryd.prog 19 #[.int .i64 (n : Int)] w (Ret (fun _ : Unit => .string (tx (Lib.decDigits n))) (fun _ => []) w) :=
  (Tryd.strconv_Itoa_small n hn w).mono fun e W' h => by
    obtain ⟨rfl, rfl⟩ := h
    exact ⟨(), rfl, KOk.start _⟩
theorem c_i_NodeText {l n : Int} (w : World) (hg : Glb w := by exact glA) : Calls Tryd.prog 8 #[.agg #[.int .i64 l, .int .i64 n]] w (Ret (fun _ : Unit => .string (tx (ntx ⟨l, n⟩))) (fun _ => []) w) := by
  by_cases hok : nok ⟨l, n⟩ = true
  · obtain ⟨l', n', he, hn, s, hs⟩ := nok_nat hok
    injection he with e1 e2
    subst e1 e2
    have hls := lbt_len hs
    have hld := dec_len (n := n') (by omega)
    have hx : ntx ⟨(l' : Int), (n' : Int)⟩ = s ++ [46] ++ Lib.decDigits n' := by
      unfold ntx
      rw [if_pos hok]
      simp [hs]
    rw [hx]
    have hdot : (⟨#[46]⟩ : ByteArray).size = 1 := rfl
    have hU : ∀ w, Calls Tryd.prog 14 #[.agg #[.int .i64 (l' : Int), .int .i64 (n' : Int)]] w (Ret (fun _ : Unit => .bool true) (fun _ => []) w) := fun w => by rw [← hok]; exact c_i_NodeOk w
    refine enter (args := _) Tryd.func8 rfl Tryd.ntmps8 (by simp) ?_
    repeat' (first | refine E.st ?_ | refine E.cl (h := fun _ w _ => hU w) (k := ?_) | refine E.cl (h := fun _ w _ => c_i_LabelText w hs) (k := ?_) | refine E.cl (h := fun _ w _ => c_i_Itoa w (by omega)) (k := ?_) | refine E.dx [0, 1, 4, 5, 2, 3, 6, 7, 8] ?_ | refine E.q4 (hy := a_cat (hl := fun _ => by simp only [tx_size, ByteArray.size_append]; omega)) ?_ | refine E.q3 ?_ | refine E.q ?_ | refine E.qs ?_ | refine E.q2 ?_ | refine E.q4 ?_ | refine E.tr ?_ | refine E.ap (fun _ _ => ?_) | refine E.b1 (fun _ _ => ?_) | refine E.b0 (fun _ _ => ?_) | refine E.bsn (fun _ _ => ?_) | refine E.mk (fun _ _ => ?_) | refine E.bxO (fun _ => ?_) | refine E.al (fun _ => ?_) | refine E.sbO ?_ | refine E.dq ?_ | refine E.ct ?_ | refine E.cf ?_ | refine E.cs (fun hh => ?_) (fun hh => ?_) | refine E.at_block_other rfl ?_)
    have e1 : tx s ++ ⟨#[46]⟩ ++ tx (Lib.decDigits n') = tx (s ++ [46] ++ Lib.decDigits n') := by
      rw [← tx_append, ← tx_append]; rfl
    rw [e1]
    exact r1 ()
  · have hx : ntx ⟨l, n⟩ = [] := if_neg hok
    rw [hx]
    have hU : ∀ w, Calls Tryd.prog 14 #[.agg #[.int .i64 l, .int .i64 n]] w (Ret (fun _ : Unit => .bool false) (fun _ => []) w) := fun w => by rw [← Bool.eq_false_iff.2 hok]; exact c_i_NodeOk w
    refine enter (args := _) Tryd.func8 rfl Tryd.ntmps8 (by simp) ?_
    repeat' (first | refine E.st ?_ | refine E.cl (h := fun _ w _ => hU w) (k := ?_) | refine E.q3 ?_ | refine E.q ?_ | refine E.qs ?_ | refine E.q2 ?_ | refine E.q4 ?_ | refine E.tr ?_ | refine E.ap (fun _ _ => ?_) | refine E.b1 (fun _ _ => ?_) | refine E.b0 (fun _ _ => ?_) | refine E.bsn (fun _ _ => ?_) | refine E.mk (fun _ _ => ?_) | refine E.bxO (fun _ => ?_) | refine E.al (fun _ => ?_) | refine E.sbO ?_ | refine E.dq ?_ | refine E.ct ?_ | refine E.cf ?_ | refine E.cs (fun hh => ?_) (fun hh => ?_) | refine E.at_block_other rfl ?_)
    exact r1 ()
theorem c_s_NodeText {l n : Int} (w : World) : Calls Tryd.prog 6 #[.agg #[.int .i64 l, .int .i64 n]] w (Ret (fun _ : Unit => .string (tx (ntx ⟨l, n⟩))) (fun _ => []) w) := by
  by_cases hok : nok ⟨l, n⟩ = true
  · obtain ⟨l', n', he, hn, s, hs⟩ := nok_nat hok
    injection he with e1 e2
    subst e1 e2
    have hls := lbt_len hs
    have hld := dec_len (n := n') (by omega)
    have hx : ntx ⟨(l' : Int), (n' : Int)⟩ = s ++ [46] ++ Lib.decDigits n' := by
      unfold ntx
      rw [if_pos hok]
      simp [hs]
    rw [hx]
    have hdot : (⟨#[46]⟩ : ByteArray).size = 1 := rfl
    have hU : ∀ w, Calls Tryd.prog 15 #[.agg #[.int .i64 (l' : Int), .int .i64 (n' : Int)]] w (Ret (fun _ : Unit => .bool true) (fun _ => []) w) := fun w => by rw [← hok]; exact c_s_NodeOk w
    refine enter (args := _) Tryd.func6 rfl Tryd.ntmps6 (by simp) ?_
    repeat' (first | refine E.st ?_ | refine E.cl (h := fun _ w _ => hU w) (k := ?_) | refine E.cl (h := fun _ w _ => c_s_LabelText w hs) (k := ?_) | refine E.cl (h := fun _ w _ => c_s_l9Dec (n := n') w (by omega)) (k := ?_) | refine E.dx [0, 1, 4, 5, 2, 3, 6, 7, 8] ?_ | refine E.q4 (hy := a_cat (hl := fun _ => by simp only [tx_size, ByteArray.size_append]; omega)) ?_ | refine E.q3 ?_ | refine E.q ?_ | refine E.qs ?_ | refine E.q2 ?_ | refine E.q4 ?_ | refine E.tr ?_ | refine E.ap (fun _ _ => ?_) | refine E.b1 (fun _ _ => ?_) | refine E.b0 (fun _ _ => ?_) | refine E.bsn (fun _ _ => ?_) | refine E.mk (fun _ _ => ?_) | refine E.bxO (fun _ => ?_) | refine E.al (fun _ => ?_) | refine E.sbO ?_ | refine E.dq ?_ | refine E.ct ?_ | refine E.cf ?_ | refine E.cs (fun hh => ?_) (fun hh => ?_) | refine E.at_block_other rfl ?_)
    have e1 : tx s ++ ⟨#[46]⟩ ++ tx (Lib.decDigits n') = tx (s ++ [46] ++ Lib.decDigits n') := by
      rw [← tx_append, ← tx_append]; rfl
    rw [e1]
    exact r1 ()
  · have hx : ntx ⟨l, n⟩ = [] := if_neg hok
    rw [hx]
    have hU : ∀ w, Calls Tryd.prog 15 #[.agg #[.int .i64 l, .int .i64 n]] w (Ret (fun _ : Unit => .bool false) (fun _ => []) w) := fun w => by rw [← Bool.eq_false_iff.2 hok]; exact c_s_NodeOk w
    refine enter (args := _) Tryd.func6 rfl Tryd.ntmps6 (by simp) ?_
    repeat' (first | refine E.st ?_ | refine E.cl (h := fun _ w _ => hU w) (k := ?_) | refine E.q3 ?_ | refine E.q ?_ | refine E.qs ?_ | refine E.q2 ?_ | refine E.q4 ?_ | refine E.tr ?_ | refine E.ap (fun _ _ => ?_) | refine E.b1 (fun _ _ => ?_) | refine E.b0 (fun _ _ => ?_) | refine E.bsn (fun _ _ => ?_) | refine E.mk (fun _ _ => ?_) | refine E.bxO (fun _ => ?_) | refine E.al (fun _ => ?_) | refine E.sbO ?_ | refine E.dq ?_ | refine E.ct ?_ | refine E.cf ?_ | refine E.cs (fun hh => ?_) (fun hh => ?_) | refine E.at_block_other rfl ?_)
    exact r1 ()
theorem c_law_NodeText {l n : Int} (w : World) (hg : Glb w) : Calls Tryd.prog 3 #[.agg #[.int .i64 l, .int .i64 n]] w (Ret (fun _ : Unit => .bool true) (fun _ => []) w) := by
  refine enter (args := _) Tryd.func3 rfl Tryd.ntmps3 (by simp) ?_
  repeat' (first | refine E.st ?_ | refine E.cl (h := fun _ w _ => c_toNode w) (k := ?_) | refine E.cl (h := fun _ w _ => c_s_NodeText w) (k := ?_) | refine E.cl (h := fun _ w hw => c_i_NodeText w (hg.now hw)) (k := ?_) | refine E.q3 ?_ | refine E.q ?_ | refine E.qs ?_ | refine E.q2 ?_ | refine E.q4 ?_ | refine E.tr ?_ | refine E.ap (fun _ _ => ?_) | refine E.b1 (fun _ _ => ?_) | refine E.b0 (fun _ _ => ?_) | refine E.bsn (fun _ _ => ?_) | refine E.mk (fun _ _ => ?_) | refine E.bxO (fun _ => ?_) | refine E.al (fun _ => ?_) | refine E.sbO ?_ | refine E.dq ?_ | refine E.ct ?_ | refine E.cf ?_ | refine E.cs (fun hh => ?_) (fun hh => ?_) | refine E.at_block_other rfl ?_)
  all_goals first
    | exact rb
    | (exfalso; simp_all; done)
end E
end Go.Proofs.YtlepiheoiinpnaaDoor
