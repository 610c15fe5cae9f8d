/- The program's peeling and cores. -/
import Derived.Test.YtpiiapoafmnhhaaGreatM09
import Derived.Test.YtpiiapoafmnhhaaGreatM05
import Derived.Test.YtpiiapoafmnhhaaGreatM03
namespace Go.Proofs.YtpiiapoafmnhhaaGreat
namespace E
open Go Go.RowKit
set_option linter.unusedSimpArgs false
set_option linter.unusedVariables false
set_option maxHeartbeats 1000000
set_option maxRecDepth 10000
attribute [local irreducible] HC HL HQ HX HO At Y YV Opd Opds KnX Sl Ld Src GV RV Calls Code.wp eptr adr RdF ownF OneX HG LdC
theorem c_idxB {v : Value} {xs : List Bool} {b : Bool} (w : World) (hr : RdF w v xs := by exact rdA) : Calls Tryz.prog 218 #[v, .bool b] w (Ret (fun _ : Unit => .int .i64 (posG xs b)) (fun _ => []) w) := by
  have m1 := hr.le
  simp only [maxLen] at m1
  refine enter (args := _) Tryz.func218 rfl Tryz.ntmps218 (by simp) ?_
  repeat' (first | refine E.st ?_ | refine E.q3 ?_ | refine E.q ?_ | refine E.qs ?_ | refine E.q2 ?_ | refine E.q4 ?_ | refine E.tr ?_ | refine E.ap (fun _ _ => ?_) | refine E.b1 (fun _ _ => ?_) | refine E.b0 (fun _ _ => ?_) | refine E.bsn (fun _ _ => ?_) | refine E.mk (fun _ _ => ?_) | refine E.bxO (fun _ => ?_) | refine E.al (fun _ => ?_) | refine E.sbO ?_ | refine E.dq ?_ | refine E.ct ?_ | refine E.cf ?_ | refine E.cs (fun hh => ?_) (fun hh => ?_) | refine E.at_block_other rfl ?_)
  refine lq (fun k : Nat => k ≤ xs.length ∧ ∀ y ∈ xs.take k, y ≠ b) (fun k => [(8, .pl (.int .i64 (k : Int)))]) (fun _ => []) (fun k => xs.length - k) 0 ⟨Nat.zero_le _, by simp⟩ (fun k hk0 => ?_)
  obtain ⟨hk1, hk2⟩ := hk0
  rcases Nat.lt_or_ge k xs.length with hlt | hge
  · obtain ⟨x, hx⟩ := get_lt hlt
    repeat' (first | refine E.st ?_ | refine E.q3 ?_ | refine E.q ?_ | refine E.qs ?_ | refine E.q2 ?_ | refine E.q4 ?_ | refine E.tr ?_ | refine E.ap (fun _ _ => ?_) | refine E.b1 (fun _ _ => ?_) | refine E.b0 (fun _ _ => ?_) | refine E.bsn (fun _ _ => ?_) | refine E.mk (fun _ _ => ?_) | refine E.bxO (fun _ => ?_) | refine E.al (fun _ => ?_) | refine E.sbO ?_ | refine E.dq ?_ | refine E.ct ?_ | refine E.cf ?_ | refine E.cs (fun hh => ?_) (fun hh => ?_) | refine E.at_block_other rfl ?_)
    · refine ri ?_
      have e : x = b := (beq_iff_eq.1 hh).symm
      rw [posG_some (by rw [hx, e]) hk2]
    · exact rd (k + 1) ⟨by omega, all_step hk2 hx (fun e => by rw [e] at hh; simp at hh)⟩
  · repeat' (first | refine E.st ?_ | refine E.q3 ?_ | refine E.q ?_ | refine E.qs ?_ | refine E.q2 ?_ | refine E.q4 ?_ | refine E.tr ?_ | refine E.ap (fun _ _ => ?_) | refine E.b1 (fun _ _ => ?_) | refine E.b0 (fun _ _ => ?_) | refine E.bsn (fun _ _ => ?_) | refine E.mk (fun _ _ => ?_) | refine E.bxO (fun _ => ?_) | refine E.al (fun _ => ?_) | refine E.sbO ?_ | refine E.dq ?_ | refine E.ct ?_ | refine E.cf ?_ | refine E.cs (fun hh => ?_) (fun hh => ?_) | refine E.at_block_other rfl ?_)
    refine ri ?_
    rw [List.take_of_length_le hge] at hk2
    rw [posG_none (fun h => hk2 _ h rfl)]
theorem c_hasB {v : Value} {xs : List Bool} {b : Bool} (w : World) (hr : RdF w v xs := by exact rdA) : Calls Tryz.prog 186 #[v, .bool b] w (Ret (fun _ : Unit => .bool (decide (b ∈ xs))) (fun _ => []) w) := by
  refine enter (args := _) Tryz.func186 rfl Tryz.ntmps186 (by simp) ?_
  repeat' (first | refine E.st ?_ | refine E.cl (h := fun _ w _ => c_idxB w) (k := ?_)  | refine E.q3 ?_ | refine E.q ?_ | refine E.qs ?_ | refine E.q2 ?_ | refine E.q4 ?_ | refine E.tr ?_ | refine E.ap (fun _ _ => ?_) | refine E.b1 (fun _ _ => ?_) | refine E.b0 (fun _ _ => ?_) | refine E.bsn (fun _ _ => ?_) | refine E.mk (fun _ _ => ?_) | refine E.bxO (fun _ => ?_) | refine E.al (fun _ => ?_) | refine E.sbO ?_ | refine E.dq ?_ | refine E.ct ?_ | refine E.cf ?_ | refine E.cs (fun hh => ?_) (fun hh => ?_) | refine E.at_block_other rfl ?_)
  refine rb ?_
  rw [decide_eq_decide]
  exact posG_neg
theorem c_idxI {v : Value} {xs : List Int} {b : Int} (w : World) (hr : RdF w v xs := by exact rdA) : Calls Tryz.prog 187 #[v, .int .i64 b] w (Ret (fun _ : Unit => .int .i64 (posG xs b)) (fun _ => []) w) := by
  have m1 := hr.le
  simp only [maxLen] at m1
  refine enter (args := _) Tryz.func187 rfl Tryz.ntmps187 (by simp) ?_
  repeat' (first | refine E.st ?_ | refine E.q3 ?_ | refine E.q ?_ | refine E.qs ?_ | refine E.q2 ?_ | refine E.q4 ?_ | refine E.tr ?_ | refine E.ap (fun _ _ => ?_) | refine E.b1 (fun _ _ => ?_) | refine E.b0 (fun _ _ => ?_) | refine E.bsn (fun _ _ => ?_) | refine E.mk (fun _ _ => ?_) | refine E.bxO (fun _ => ?_) | refine E.al (fun _ => ?_) | refine E.sbO ?_ | refine E.dq ?_ | refine E.ct ?_ | refine E.cf ?_ | refine E.cs (fun hh => ?_) (fun hh => ?_) | refine E.at_block_other rfl ?_)
  refine lq (fun k : Nat => k ≤ xs.length ∧ ∀ y ∈ xs.take k, y ≠ b) (fun k => [(8, .pl (.int .i64 (k : Int)))]) (fun _ => []) (fun k => xs.length - k) 0 ⟨Nat.zero_le _, by simp⟩ (fun k hk0 => ?_)
  obtain ⟨hk1, hk2⟩ := hk0
  rcases Nat.lt_or_ge k xs.length with hlt | hge
  · obtain ⟨x, hx⟩ := get_lt hlt
    repeat' (first | refine E.st ?_ | refine E.q3 ?_ | refine E.q ?_ | refine E.qs ?_ | refine E.q2 ?_ | refine E.q4 ?_ | refine E.tr ?_ | refine E.ap (fun _ _ => ?_) | refine E.b1 (fun _ _ => ?_) | refine E.b0 (fun _ _ => ?_) | refine E.bsn (fun _ _ => ?_) | refine E.mk (fun _ _ => ?_) | refine E.bxO (fun _ => ?_) | refine E.al (fun _ => ?_) | refine E.sbO ?_ | refine E.dq ?_ | refine E.ct ?_ | refine E.cf ?_ | refine E.cs (fun hh => ?_) (fun hh => ?_) | refine E.at_block_other rfl ?_)
    · refine ri ?_
      rw [posG_some (by rw [hx, hh]) hk2]
    · exact rd (k + 1) ⟨by omega, all_step hk2 hx (fun e => hh e.symm)⟩
  · repeat' (first | refine E.st ?_ | refine E.q3 ?_ | refine E.q ?_ | refine E.qs ?_ | refine E.q2 ?_ | refine E.q4 ?_ | refine E.tr ?_ | refine E.ap (fun _ _ => ?_) | refine E.b1 (fun _ _ => ?_) | refine E.b0 (fun _ _ => ?_) | refine E.bsn (fun _ _ => ?_) | refine E.mk (fun _ _ => ?_) | refine E.bxO (fun _ => ?_) | refine E.al (fun _ => ?_) | refine E.sbO ?_ | refine E.dq ?_ | refine E.ct ?_ | refine E.cf ?_ | refine E.cs (fun hh => ?_) (fun hh => ?_) | refine E.at_block_other rfl ?_)
    refine ri ?_
    rw [List.take_of_length_le hge] at hk2
    rw [posG_none (fun h => hk2 _ h rfl)]
theorem c_hasI {v : Value} {xs : List Int} {b : Int} (w : World) (hr : RdF w v xs := by exact rdA) : Calls Tryz.prog 142 #[v, .int .i64 b] w (Ret (fun _ : Unit => .bool (decide (b ∈ xs))) (fun _ => []) w) := by
  refine enter (args := _) Tryz.func142 rfl Tryz.ntmps142 (by simp) ?_
  repeat' (first | refine E.st ?_ | refine E.cl (h := fun _ w _ => c_idxI w) (k := ?_)  | refine E.q3 ?_ | refine E.q ?_ | refine E.qs ?_ | refine E.q2 ?_ | refine E.q4 ?_ | refine E.tr ?_ | refine E.ap (fun _ _ => ?_) | refine E.b1 (fun _ _ => ?_) | refine E.b0 (fun _ _ => ?_) | refine E.bsn (fun _ _ => ?_) | refine E.mk (fun _ _ => ?_) | refine E.bxO (fun _ => ?_) | refine E.al (fun _ => ?_) | refine E.sbO ?_ | refine E.dq ?_ | refine E.ct ?_ | refine E.cf ?_ | refine E.cs (fun hh => ?_) (fun hh => ?_) | refine E.at_block_other rfl ?_)
  refine rb ?_
  rw [decide_eq_decide]
  exact posG_neg
theorem trues_has {left : List Bool} : decide (true ∈ left) = decide (0 < trues left) := by
  rw [decide_eq_decide]
  unfold trues
  rw [List.countP_pos_iff]
  constructor
  · exact fun h => ⟨true, h, rfl⟩
  · rintro ⟨b, hb, h⟩
    simp only [id] at h
    subst h
    exact hb
theorem c_i_peel {v b : Value} {adj : List (List Nat)} {xs : List Sv} {left : List Bool} {n k : Nat} {w0 : World} {K : List Ck} (w : World) (hw : KOk w0 (ownF 4 b left :: K) w) (hA : AOk n adj) (hn : n ≤ 1000) (hl : left.length = n) (hk : k ≤ 1000) (hx : RdIn w0 K v xs) (hxl : xs.length = n) (hin : ∀ (i : Nat) x r, xs[i]? = some x → adj[i]? = some r → RdIn w0 K (.slice x.a x.n x.c) (zL r)) :
    Calls Tryz.prog 141 #[v, b, .int .i64 (k : Int)] w (RetK (fun _ : Unit => .bool (decide (0 < trues (peel adj k left)))) (fun _ => [ownF 4 b (peel adj k left)] ++ K) w0) := by
  have o1 := (hx w (hw.sub ks)).one
  have o3 := (RdF.ofK hw : RdF w b left).one
  refine enterK (args := _) hw Tryz.func141 rfl Tryz.ntmps141 (by simp) ?_
  repeat' (first | refine E.st ?_ | refine E.q3 ?_ | refine E.q ?_ | refine E.qs ?_ | refine E.q2 ?_ | refine E.q4 ?_ | refine E.tr ?_ | refine E.ap (fun _ _ => ?_) | refine E.b1 (fun _ _ => ?_) | refine E.b0 (fun _ _ => ?_) | refine E.bsn (fun _ _ => ?_) | refine E.mk (fun _ _ => ?_) | refine E.bxO (fun _ => ?_) | refine E.al (fun _ => ?_) | refine E.sbO ?_ | refine E.dq ?_ | refine E.ct ?_ | refine E.cf ?_ | refine E.cs (fun hh => ?_) (fun hh => ?_) | refine E.at_block_other rfl ?_)
  refine lq (fun z : List Bool × Bool => z.1.length = n ∧ (if z.2 = true then peel adj k z.1 else z.1) = peel adj k left) (fun z => [(7, .pl (.bool z.2))]) (fun z => [ownF 4 b z.1]) (fun z => 2 * trues z.1 + if z.2 = true then 1 else 0) (left, true) ⟨hl, rfl⟩ (fun z hz => ?_)
  obtain ⟨left', t⟩ := z
  obtain ⟨hl', hp⟩ := hz
  dsimp only at hl' hp ⊢
  cases t with
  | false =>
    repeat' (first | refine E.st ?_ | refine E.cl (h := fun _ w _ => c_hasB (xs := left') w) (k := ?_)  | refine E.q3 ?_ | refine E.q ?_ | refine E.qs ?_ | refine E.q2 ?_ | refine E.q4 ?_ | refine E.tr ?_ | refine E.ap (fun _ _ => ?_) | refine E.b1 (fun _ _ => ?_) | refine E.b0 (fun _ _ => ?_) | refine E.bsn (fun _ _ => ?_) | refine E.mk (fun _ _ => ?_) | refine E.bxO (fun _ => ?_) | refine E.al (fun _ => ?_) | refine E.sbO ?_ | refine E.dq ?_ | refine E.ct ?_ | refine E.cf ?_ | refine E.cs (fun hh => ?_) (fun hh => ?_) | refine E.at_block_other rfl ?_)
    have hp2 : left' = peel adj k left := hp
    refine r1K () (hv := ?_) (hK := KSub.ownF pk hp2 ?_)
    · rw [trues_has, hp2]
    · exact KSub.refl _
  | true =>
    obtain ⟨S, hS0, hSs, hSl, hSe⟩ := peel_walk adj k left'
    have htr := peelR_tr (adj := adj) (k := k) (left := left')
    have hps := peel_step (adj := adj) (k := k) (left := left')
    rw [if_pos rfl] at hp
    rw [hp, ← hSe] at hps
    rw [← hSe] at htr
    have hS02 : (S 0).2 = false := by rw [hS0]
    repeat' (first | refine E.st ?_ | refine E.q3 ?_ | refine E.q ?_ | refine E.qs ?_ | refine E.q2 ?_ | refine E.q4 ?_ | refine E.tr ?_ | refine E.ap (fun _ _ => ?_) | refine E.b1 (fun _ _ => ?_) | refine E.b0 (fun _ _ => ?_) | refine E.bsn (fun _ _ => ?_) | refine E.mk (fun _ _ => ?_) | refine E.bxO (fun _ => ?_) | refine E.al (fun _ => ?_) | refine E.sbO ?_ | refine E.dq ?_ | refine E.ct ?_ | refine E.cf ?_ | refine E.cs (fun hh => ?_) (fun hh => ?_) | refine E.at_block_other rfl ?_)
    refine lq (fun j : Nat => j ≤ xs.length) (fun j => [(12, .pl (.int .i64 (j : Int))), (7, .pl (.bool (S j).2))]) (fun j => [ownF 4 b (S j).1]) (fun j => xs.length - j) 0 (Nat.zero_le _) (fun j hj => ?_) (hK := Spl.ownF pk (by rw [hS0]) (Spl.nil _))
    have hlj := hSl j
    dsimp only [List.append_eq, List.nil_append, List.cons_append]
    rcases Nat.lt_or_ge j xs.length with hlt | hge
    · obtain ⟨x, hxj⟩ := get_lt hlt
      have hal := hA.1
      have hrw : adj[j]? = some (adj.getD j []) := getD_at (by omega)
      have hin2 := hin j x _ hxj hrw
      have hAr := hA.2 j _ hrw
      have hrl := row_len hAr.1 hAr.2 (by omega : j < n)
      have hbj : (S j).1[j]? = some ((S j).1.getD j false) := getD_at (by omega)
      have hst := hSs j
      unfold peelS at hst
      have hlen : (S j).1.length = n := by omega
      have hrlt : ∀ o ∈ adj.getD j [], o < (S j).1.length := fun o ho => by rw [hlen]; exact (hAr.1 o ho).1
      generalize (S j).1.getD j false = c at hbj hst
      generalize adj.getD j [] = row at *
      repeat' (first | refine E.st ?_ | refine E.cl (h := fun _ w hw => c_countStays (row := row) (left := (S j).1) w hrlt (by omega) (hin2.att hw) (RdF.ofK hw)) (k := ?_) | refine E.q3 ?_ | refine E.q ?_ | refine E.qs ?_ | refine E.q2 ?_ | refine E.q4 ?_ | refine E.tr ?_ | refine E.ap (fun _ _ => ?_) | refine E.b1 (fun _ _ => ?_) | refine E.b0 (fun _ _ => ?_) | refine E.bsn (fun _ _ => ?_) | refine E.mk (fun _ _ => ?_) | refine E.bxO (fun _ => ?_) | refine E.al (fun _ => ?_) | refine E.sbO ?_ | refine E.dq ?_ | refine E.ct ?_ | refine E.cf ?_ | refine E.cs (fun hh => ?_) (fun hh => ?_) | refine E.at_block_other rfl ?_)
      · rw [if_pos ⟨hh.1, by omega⟩] at hst
        have h1 : (S (j + 1)).2 = true := by rw [hst]
        exact rd (j + 1) hlt (hK := KSub.ownF pk (by rw [hst]) ks)
      · rw [if_neg (by
          rintro ⟨a, b⟩
          rcases hh with h | h
          · rw [a] at h; cases h
          · omega)] at hst
        have h1 : (S (j + 1)).2 = (S j).2 := by rw [hst]
        exact rd (j + 1) hlt (hK := KSub.ownF pk (by rw [hst]) ks)
    · repeat' (first | refine E.st ?_ | refine E.q3 ?_ | refine E.q ?_ | refine E.qs ?_ | refine E.q2 ?_ | refine E.q4 ?_ | refine E.tr ?_ | refine E.ap (fun _ _ => ?_) | refine E.b1 (fun _ _ => ?_) | refine E.b0 (fun _ _ => ?_) | refine E.bsn (fun _ _ => ?_) | refine E.mk (fun _ _ => ?_) | refine E.bxO (fun _ => ?_) | refine E.al (fun _ => ?_) | refine E.sbO ?_ | refine E.dq ?_ | refine E.ct ?_ | refine E.cf ?_ | refine E.cs (fun hh => ?_) (fun hh => ?_) | refine E.at_block_other rfl ?_)
      have hje : j = left'.length := by omega
      subst hje
      refine rd (α := List Bool × Bool) (S left'.length) ⟨by omega, hps.symm⟩ ?_
      rw [if_pos rfl]
      split
      · rename_i h
        have := htr.2 h
        omega
      · have := htr.1
        omega
end E
end Go.Proofs.YtpiiapoafmnhhaaGreat
/- The program's walks over the rows of places. -/
namespace Go.Proofs.YtpiiapoafmnhhaaGreat
namespace E
open Go Go.RowKit
set_option linter.unusedSimpArgs false
set_option linter.unusedVariables false
set_option maxHeartbeats 1000000
set_option maxRecDepth 10000
attribute [local irreducible] HC HL HQ HX HO At Y YV Opd Opds KnX Sl Ld Src GV RV Calls Code.wp eptr adr RdF ownF OneX HG LdC
/-- What is asked of the program's nearPlaces. -/
def NearC : Prop := ∀ {v u : Value} {g : Gr} (w : World), g.ok → RdF w v g.ns → RdF w u g.es → Calls Tryz.prog 140 #[.agg #[v, u]] w (Ret (fun z : V1 × { xs : List Sv // Match xs (adjL g) } => z.1.1) (fun z => ownF 48 z.1.1 z.2.1 :: inn 3 z.2.1 (adjL g)) w)
theorem c_i_GraphOk_t {v u : Value} {ns : List Nd} {es : List Eg} (w : World) (h : gok ns es = true) (hr : RdF w v ns := by exact rdA) (hq : RdF w u es := by exact rdA) : Calls Tryz.prog 73 #[.agg #[v, u]] w (Ret (fun _ : Unit => .bool true) (fun _ => []) w) := by
  have := c_i_GraphOk w hr hq
  rwa [h] at this
theorem c_i_GraphOk_f {v u : Value} {ns : List Nd} {es : List Eg} (w : World) (h : gok ns es = false) (hr : RdF w v ns := by exact rdA) (hq : RdF w u es := by exact rdA) : Calls Tryz.prog 73 #[.agg #[v, u]] w (Ret (fun _ : Unit => .bool false) (fun _ => []) w) := by
  have := c_i_GraphOk w hr hq
  rwa [h] at this
theorem c_i_WalkDist (hN : NearC) {v u : Value} {g : Gr} {l n : Int} (w : World) (hr : RdF w v g.ns := by exact rdA) (hq : RdF w u g.es := by exact rdA) :
    Calls Tryz.prog 76 #[.agg #[v, u], .agg #[.int .i64 l, .int .i64 n]] w (Ret (fun z : V1 => z.1) (fun z => [ownF 3 z.1 (if g.ok then distL g ⟨l, n⟩ else [])]) w) := by
  have o1 := hr.one
  have o2 := hq.one
  by_cases hg : g.ok
  · have hgt := gok_t hg
    have hnl := hg.1.len
    rw [if_pos hg]
    by_cases hm : (⟨l, n⟩ : Nd) ∈ g.ns
    · have hA := AOk.of hg
      have hp := plc_ok hm
      have hd : distL g ⟨l, n⟩ = (bfs (adjL g) g.ns.length (plc g.ns ⟨l, n⟩)).st := if_pos hm
      rw [hd]
      refine enter (args := _) Tryz.func76 rfl Tryz.ntmps76 (by simp) ?_
      repeat' (first | refine E.st ?_ | refine E.cl (h := fun _ w _ => c_i_GraphOk_t w hgt) (k := ?_) | refine E.cl (h := fun _ w _ => c_nodePlace_m w hg.1 hm) (k := ?_) | refine E.cm (h := fun w hw => hN w hg (hr.now hw) (hq.now hw)) (k := fun z => E.wy z.1.2 (fun _ => E.wy z.2.2 (fun _ => ?_))) | refine E.cm (h := fun w hw => c_stepsFrom w hA (by omega) hp.2.2 (RdN.ofK hw)) (k := fun y => E.wy y.2.1 (fun _ => E.wy y.2.2 (fun _ => ?_))) | refine E.q3 ?_ | refine E.q ?_ | refine E.qs ?_ | refine E.q2 ?_ | refine E.q4 ?_ | refine E.tr ?_ | refine E.ap (fun _ _ => ?_) | refine E.b1 (fun _ _ => ?_) | refine E.b0 (fun _ _ => ?_) | refine E.bsn (fun _ _ => ?_) | refine E.mk (fun _ _ => ?_) | refine E.bxO (fun _ => ?_) | refine E.al (fun _ => ?_) | refine E.sbO ?_ | refine E.dq ?_ | refine E.ct ?_ | refine E.cf ?_ | refine E.cs (fun hh => ?_) (fun hh => ?_) | refine E.at_block_other rfl ?_)
      exact r1 (α := V1) ⟨y.1.1, y.2.1⟩
    · have hp : pos g.ns ⟨l, n⟩ < 0 := by rw [pos_none hm]; omega
      have hd : distL g ⟨l, n⟩ = [] := if_neg hm
      rw [hd]
      refine enter (args := _) Tryz.func76 rfl Tryz.ntmps76 (by simp) ?_
      refine E.nl 3 (α := Int) ?_
      repeat' (first | refine E.st ?_ | refine E.cl (h := fun _ w _ => c_i_GraphOk_t w hgt) (k := ?_) | refine E.cl (h := fun _ w _ => c_nodePlace w hg.1) (k := ?_)  | refine E.q3 ?_ | refine E.q ?_ | refine E.qs ?_ | refine E.q2 ?_ | refine E.q4 ?_ | refine E.tr ?_ | refine E.ap (fun _ _ => ?_) | refine E.b1 (fun _ _ => ?_) | refine E.b0 (fun _ _ => ?_) | refine E.bsn (fun _ _ => ?_) | refine E.mk (fun _ _ => ?_) | refine E.bxO (fun _ => ?_) | refine E.al (fun _ => ?_) | refine E.sbO ?_ | refine E.dq ?_ | refine E.ct ?_ | refine E.cf ?_ | refine E.cs (fun hh => ?_) (fun hh => ?_) | refine E.at_block_other rfl ?_)
      exact r1 (α := V1) ⟨_, rfl⟩
  · have hgf := gok_f hg
    rw [if_neg hg]
    refine enter (args := _) Tryz.func76 rfl Tryz.ntmps76 (by simp) ?_
    refine E.nl 3 (α := Int) ?_
    repeat' (first | refine E.st ?_ | refine E.cl (h := fun _ w _ => c_i_GraphOk_f w hgf) (k := ?_)  | refine E.q3 ?_ | refine E.q ?_ | refine E.qs ?_ | refine E.q2 ?_ | refine E.q4 ?_ | refine E.tr ?_ | refine E.ap (fun _ _ => ?_) | refine E.b1 (fun _ _ => ?_) | refine E.b0 (fun _ _ => ?_) | refine E.bsn (fun _ _ => ?_) | refine E.mk (fun _ _ => ?_) | refine E.bxO (fun _ => ?_) | refine E.al (fun _ => ?_) | refine E.sbO ?_ | refine E.dq ?_ | refine E.ct ?_ | refine E.cf ?_ | refine E.cs (fun hh => ?_) (fun hh => ?_) | refine E.at_block_other rfl ?_)
    exact r1 (α := V1) ⟨_, rfl⟩
theorem inn_in {w0 : World} {K : List Ck} {xs : List Sv} {adj : List (List Nat)} (hs : InK (inn 3 xs adj) K := by exact ink) : ∀ (i : Nat) x r, xs[i]? = some x → adj[i]? = some r → RdIn w0 K (.slice x.a x.n x.c) (zL r) := fun i x r hx hr => by
  refine RdIn.own (e := 3) (hs.mem _ ?_)
  unfold inn
  refine List.mem_map.2 ⟨(x, r), ?_, rfl⟩
  exact List.mem_of_getElem? (i := i) (by simp [List.getElem?_zip_eq_some, hx, hr])
theorem core_end {n : Nat} {adj : List (List Nat)} {k : Nat} {left : List Bool} {out : List Int} (h : trues (peel adj k left) = 0) : coreG adj (n - k) k left out = out := by
  cases hf : n - k with
  | zero => rfl
  | succ f =>
    change coreG adj f (k + 1) (peel adj k left) (coreM (peel adj k left) out k) = out
    rw [coreG_none _ _ _ _ h, coreM_none h]
theorem c_i_WalkCore (hN : NearC) {v u : Value} {g : Gr} (w : World) (hr : RdF w v g.ns := by exact rdA) (hq : RdF w u g.es := by exact rdA) :
    Calls Tryz.prog 77 #[.agg #[v, u]] w (Ret (fun z : V1 => z.1) (fun z => [ownF 3 z.1 (if g.ok then coreL (adjL g) g.ns.length else [])]) w) := by
  have o1 := hr.one
  have o2 := hq.one
  by_cases hg : g.ok
  · have hgt := gok_t hg
    have hnl := hg.1.len
    have hA := AOk.of hg
    rw [if_pos hg]
    by_cases h0 : g.ns.length = 0
    · have hc0 : coreL (adjL g) g.ns.length = [] := by rw [h0]; rfl
      rw [hc0]
      refine enter (args := _) Tryz.func77 rfl Tryz.ntmps77 (by simp) ?_
      refine E.nl 3 (α := Int) ?_
      repeat' (first | refine E.st ?_ | refine E.cl (h := fun _ w _ => c_i_GraphOk_t w hgt) (k := ?_)  | refine E.q3 ?_ | refine E.q ?_ | refine E.qs ?_ | refine E.q2 ?_ | refine E.q4 ?_ | refine E.tr ?_ | refine E.ap (fun _ _ => ?_) | refine E.b1 (fun _ _ => ?_) | refine E.b0 (fun _ _ => ?_) | refine E.bsn (fun _ _ => ?_) | refine E.mk (fun _ _ => ?_) | refine E.bxO (fun _ => ?_) | refine E.al (fun _ => ?_) | refine E.sbO ?_ | refine E.dq ?_ | refine E.ct ?_ | refine E.cf ?_ | refine E.cs (fun hh => ?_) (fun hh => ?_) | refine E.at_block_other rfl ?_)
      all_goals first
        | exact r1 (α := V1) ⟨_, rfl⟩
        | (exfalso; simp_all; done)
        | (exfalso; omega)
    · refine enter (args := _) Tryz.func77 rfl Tryz.ntmps77 (by simp) ?_
      repeat' (first | refine E.st ?_ | refine E.cl (h := fun _ w _ => c_i_GraphOk_t w hgt) (k := ?_) | refine E.cm (h := fun w hw => hN w hg (hr.now hw) (hq.now hw)) (k := fun z => E.wy z.1.2 (fun _ => E.wy z.2.2 (fun hM => E.wy (show z.2.1.length = g.ns.length from z.2.2.1.trans hA.1) (fun hzl => ?_)))) | refine E.mk (α := Int) (z' := 0) (fun v4 h4 => ?_) | refine E.mk (α := Bool) (z' := false) (fun v5 h5 => ?_) | refine E.q3 ?_ | refine E.q ?_ | refine E.qs ?_ | refine E.q2 ?_ | refine E.q4 ?_ | refine E.tr ?_ | refine E.ap (fun _ _ => ?_) | refine E.b1 (fun _ _ => ?_) | refine E.b0 (fun _ _ => ?_) | refine E.bsn (fun _ _ => ?_) | refine E.mk (fun _ _ => ?_) | refine E.bxO (fun _ => ?_) | refine E.al (fun _ => ?_) | refine E.sbO ?_ | refine E.dq ?_ | refine E.ct ?_ | refine E.cf ?_ | refine E.cs (fun hh => ?_) (fun hh => ?_) | refine E.at_block_other rfl ?_)
      all_goals try (exfalso; simp only [false_or] at hh; omega)
      have hl5 : (List.replicate z.2.1.length false).length = z.2.1.length := List.length_replicate
      refine lq (fun j : Nat => j ≤ z.2.1.length) (fun j => [(28, .pl (.int .i64 (j : Int)))]) (fun j => [ownF 4 v5 (List.replicate j true ++ List.replicate (z.2.1.length - j) false)]) (fun j => z.2.1.length - j) 0 (Nat.zero_le _) (fun j hj => ?_) (hK := Spl.ownF pk (by simp) (Spl.nil _))
      have hl2 : (List.replicate j true ++ List.replicate (z.2.1.length - j) false).length = z.2.1.length := by simp; omega
      rcases Nat.lt_or_ge j z.2.1.length with hlt | hge
      · have hgt2 : (List.replicate j true ++ List.replicate (z.2.1.length - j) false)[j]? = some false := by
          rw [List.getElem?_append_right (by simp), List.getElem?_replicate]
          simp; omega
        have hset : (List.replicate j true ++ List.replicate (z.2.1.length - j) false).set j true = List.replicate (j + 1) true ++ List.replicate (z.2.1.length - (j + 1)) false := by
          rw [List.set_append_right _ _ (by simp), List.length_replicate, Nat.sub_self, show z.2.1.length - j = (z.2.1.length - (j + 1)) + 1 from by omega, List.replicate_succ, List.set_cons_zero, List.replicate_succ', List.append_assoc]
          rfl
        repeat' (first | refine E.st ?_ | refine E.q3 ?_ | refine E.q ?_ | refine E.qs ?_ | refine E.q2 ?_ | refine E.q4 ?_ | refine E.tr ?_ | refine E.ap (fun _ _ => ?_) | refine E.b1 (fun _ _ => ?_) | refine E.b0 (fun _ _ => ?_) | refine E.bsn (fun _ _ => ?_) | refine E.mk (fun _ _ => ?_) | refine E.bxO (fun _ => ?_) | refine E.al (fun _ => ?_) | refine E.sbO ?_ | refine E.dq ?_ | refine E.ct ?_ | refine E.cf ?_ | refine E.cs (fun hh => ?_) (fun hh => ?_) | refine E.at_block_other rfl ?_)
        exact rd (j + 1) hlt (hK := KSub.ownF pk hset ks)
      have hje : j = z.2.1.length := by omega
      subst hje
      simp only [Nat.sub_self, List.replicate_zero, List.append_nil]
      repeat' (first | refine E.st ?_ | refine E.q3 ?_ | refine E.q ?_ | refine E.qs ?_ | refine E.q2 ?_ | refine E.q4 ?_ | refine E.tr ?_ | refine E.ap (fun _ _ => ?_) | refine E.b1 (fun _ _ => ?_) | refine E.b0 (fun _ _ => ?_) | refine E.bsn (fun _ _ => ?_) | refine E.mk (fun _ _ => ?_) | refine E.bxO (fun _ => ?_) | refine E.al (fun _ => ?_) | refine E.sbO ?_ | refine E.dq ?_ | refine E.ct ?_ | refine E.cf ?_ | refine E.cs (fun hh => ?_) (fun hh => ?_) | refine E.at_block_other rfl ?_)
      refine lq (fun y : Nat × List Bool × List Int => (1 ≤ y.1 ∧ y.1 ≤ 1000 ∧ y.2.1.length = g.ns.length ∧ y.2.2.length = g.ns.length) ∧ coreG (adjL g) (g.ns.length - y.1) y.1 y.2.1 y.2.2 = coreL (adjL g) g.ns.length) (fun y => [(7, .pl (.int .i64 (y.1 : Int)))]) (fun y => [ownF 3 v4 y.2.2, ownF 4 v5 y.2.1]) (fun y => g.ns.length - y.1) (1, List.replicate g.ns.length true, List.replicate g.ns.length 0) ⟨⟨Nat.le_refl _, by omega, by simp, by simp⟩, rfl⟩ (fun y hy => ?_) (hK := Spl.ownF pk (by rw [hzl]) (Spl.ownF pk (by rw [hzl]) (Spl.nil _)))
      obtain ⟨k, left, out⟩ := y
      obtain ⟨⟨hk1, hk2, hll, hol⟩, hco⟩ := hy
      dsimp only at hk1 hk2 hll hol hco ⊢
      have hpl := peel_len (adj := adjL g) (k := k) (left := left)
      have hpn := fun h => peel_n hA (k := k) h hll
      have hce := core_end (n := g.ns.length) (adj := adjL g) (k := k) (left := left) (out := out)
      repeat' (first | refine E.st ?_ | refine E.ckq (h := fun w hw => c_i_peel (n := g.ns.length) (k := k) (left := left) w hw hA (by omega) hll hk2 (RdIn.own mm) hzl inn_in) (k := fun _ => ?_) | refine E.q3 ?_ | refine E.q ?_ | refine E.qs ?_ | refine E.q2 ?_ | refine E.q4 ?_ | refine E.tr ?_ | refine E.ap (fun _ _ => ?_) | refine E.b1 (fun _ _ => ?_) | refine E.b0 (fun _ _ => ?_) | refine E.bsn (fun _ _ => ?_) | refine E.mk (fun _ _ => ?_) | refine E.bxO (fun _ => ?_) | refine E.al (fun _ => ?_) | refine E.sbO ?_ | refine E.dq ?_ | refine E.ct ?_ | refine E.cf ?_ | refine E.cs (fun hh => ?_) (fun hh => ?_) | refine E.at_block_other rfl ?_)
      · have hkn : k < g.ns.length := by
          rcases Nat.lt_or_ge k g.ns.length with h | h
          · exact h
          · have := hpn h
            omega
        have hco2 : coreG (adjL g) (g.ns.length - (k + 1)) (k + 1) (peel (adjL g) k left) (coreM (peel (adjL g) k left) out k) = coreL (adjL g) g.ns.length := by
          rw [← hco, show g.ns.length - k = (g.ns.length - (k + 1)) + 1 from by omega]
          rfl
        obtain ⟨S, hS0, hSs, hSl, hSe⟩ := core_walk (peel (adjL g) k left) out k
        clear hce hpn
        generalize peel (adjL g) k left = left2 at *
        refine lq (fun j : Nat => j ≤ out.length) (fun j => [(43, .pl (.int .i64 (j : Int)))]) (fun j => [ownF 3 v4 (S j)]) (fun j => out.length - j) 0 (Nat.zero_le _) (fun j hj => ?_) (hK := Spl.ownF pk hS0.symm (Spl.nil _))
        have hlj := hSl j
        rcases Nat.lt_or_ge j out.length with hlt3 | hge3
        · have hbj : left2[j]? = some (left2.getD j false) := getD_at (by omega)
          have hoj : (S j)[j]? = some ((S j).getD j 0) := getD_at (by omega)
          have hst := hSs j
          generalize left2.getD j false = c at hbj hst
          repeat' (first | refine E.st ?_ | refine E.q3 ?_ | refine E.q ?_ | refine E.qs ?_ | refine E.q2 ?_ | refine E.q4 ?_ | refine E.tr ?_ | refine E.ap (fun _ _ => ?_) | refine E.b1 (fun _ _ => ?_) | refine E.b0 (fun _ _ => ?_) | refine E.bsn (fun _ _ => ?_) | refine E.mk (fun _ _ => ?_) | refine E.bxO (fun _ => ?_) | refine E.al (fun _ => ?_) | refine E.sbO ?_ | refine E.dq ?_ | refine E.ct ?_ | refine E.cf ?_ | refine E.cs (fun hh => ?_) (fun hh => ?_) | refine E.at_block_other rfl ?_)
          · rw [if_pos (by assumption)] at hst
            exact rd (j + 1) hlt3 (hK := KSub.ownF pk hst.symm ks)
          · rw [if_neg (by simp [*])] at hst
            exact rd (j + 1) hlt3 (hK := KSub.ownF pk hst.symm ks)
        · repeat' (first | refine E.st ?_ | refine E.q3 ?_ | refine E.q ?_ | refine E.qs ?_ | refine E.q2 ?_ | refine E.q4 ?_ | refine E.tr ?_ | refine E.ap (fun _ _ => ?_) | refine E.b1 (fun _ _ => ?_) | refine E.b0 (fun _ _ => ?_) | refine E.bsn (fun _ _ => ?_) | refine E.mk (fun _ _ => ?_) | refine E.bxO (fun _ => ?_) | refine E.al (fun _ => ?_) | refine E.sbO ?_ | refine E.dq ?_ | refine E.ct ?_ | refine E.cf ?_ | refine E.cs (fun hh => ?_) (fun hh => ?_) | refine E.at_block_other rfl ?_)
          have hje : j = out.length := by omega
          subst hje
          refine rd (α := Nat × List Bool × List Int) (k + 1, left2, S out.length) ⟨⟨by omega, by dsimp only; omega, by dsimp only; omega, by dsimp only; omega⟩, by rw [hSe]; exact hco2⟩
      · have h00 : trues (peel (adjL g) k left) = 0 := by omega
        exact r1 (α := V1) ⟨v4, h4⟩ (hK := KSub.ownF pk (by rw [← hco, hce h00]) (KSub.nil _))
  · have hgf := gok_f hg
    rw [if_neg hg]
    refine enter (args := _) Tryz.func77 rfl Tryz.ntmps77 (by simp) ?_
    refine E.nl 3 (α := Int) ?_
    repeat' (first | refine E.st ?_ | refine E.cl (h := fun _ w _ => c_i_GraphOk_f w hgf) (k := ?_)  | refine E.q3 ?_ | refine E.q ?_ | refine E.qs ?_ | refine E.q2 ?_ | refine E.q4 ?_ | refine E.tr ?_ | refine E.ap (fun _ _ => ?_) | refine E.b1 (fun _ _ => ?_) | refine E.b0 (fun _ _ => ?_) | refine E.bsn (fun _ _ => ?_) | refine E.mk (fun _ _ => ?_) | refine E.bxO (fun _ => ?_) | refine E.al (fun _ => ?_) | refine E.sbO ?_ | refine E.dq ?_ | refine E.ct ?_ | refine E.cf ?_ | refine E.cs (fun hh => ?_) (fun hh => ?_) | refine E.at_block_other rfl ?_)
    all_goals first
      | exact r1 (α := V1) ⟨_, rfl⟩
      | exact hh.1.elim
end E
end Go.Proofs.YtpiiapoafmnhhaaGreat
/- The program's threes, given the rows of places. -/
namespace Go.Proofs.YtpiiapoafmnhhaaGreat
namespace E
open Go Go.RowKit
set_option linter.unusedSimpArgs false
set_option linter.unusedVariables false
set_option maxHeartbeats 1000000
set_option maxRecDepth 10000
attribute [local irreducible] HC HL HQ HX HO At Y YV Opd Opds KnX Sl Ld Src GV RV Calls Code.wp eptr adr RdF ownF OneX HG LdC
def f3 (adj : List (List Nat)) (a b : Nat) : Nat := if b < a then 0 else three1 adj a b
theorem three1_le {adj : List (List Nat)} {a b : Nat} (h : (adj.getD b []).length ≤ 40) : three1 adj a b ≤ 40 := Nat.le_trans List.countP_le_length h
theorem f3_sum_le {adj : List (List Nat)} {a : Nat} : ∀ row : List Nat, (∀ b ∈ row, (adj.getD b []).length ≤ 40) → (row.map (f3 adj a)).sum ≤ 40 * row.length
  | [], _ => by simp
  | b :: row, h => by
    have h1 := f3_sum_le (adj := adj) (a := a) row (fun x hx => h x (List.mem_cons_of_mem _ hx))
    have h2 := three1_le (a := a) (h b List.mem_cons_self)
    simp only [List.map_cons, List.sum_cons, List.length_cons, f3] at h1 ⊢
    split <;> omega
def tsum3 (adj : List (List Nat)) (i : Nat) : Nat := ((List.range i).map (fun a => threeR adj a (adj.getD a []))).sum
theorem tsum3_step {adj : List (List Nat)} {i : Nat} : tsum3 adj (i + 1) = tsum3 adj i + ((adj.getD i []).map (f3 adj i)).sum := by
  unfold tsum3
  rw [List.range_succ, List.map_append, List.sum_append]
  simp only [List.map_cons, List.map_nil, List.sum_cons, List.sum_nil, Nat.add_zero]
  rfl
theorem drop_sum {f : Nat → Nat} {row : List Nat} {j b : Nat} (h : row[j]? = some b) : ((row.drop j).map f).sum = f b + ((row.drop (j + 1)).map f).sum := by
  obtain ⟨hj, e⟩ := List.getElem?_eq_some_iff.1 h
  rw [List.drop_eq_getElem_cons hj, e]
  rfl
theorem mem_zL {r : List Nat} {o : Nat} : (o : Int) ∈ zL r ↔ o ∈ r := by
  unfold zL
  rw [List.mem_map]
  constructor
  · rintro ⟨a, h, e⟩
    have : a = o := by omega
    exact this ▸ h
  · exact fun h => ⟨o, h, rfl⟩
theorem wr {P : Program} {N : Nat} {w0 : World} {K : List Ck} {F : List (Nat × En)} {Q : Exit → Act → World → Prop} {cd : Code} {xs : List Sv} {adj : List (List Nat)} {i : Nat} {x : Sv} {r : List Nat} (hx : xs[i]? = some x) (hr : adj[i]? = some r) (k : RdIn w0 K (.slice x.a x.n x.c) (zL r) → HC P N w0 cd Q F K) (hs : InK (inn 3 xs adj) K := by exact ink) : HC P N w0 cd Q F K := k (inn_in (hs := hs) i x r hx hr)
theorem c_i_WalkThrees (hN : NearC) {v u : Value} {g : Gr} (w : World) (hr : RdF w v g.ns := by exact rdA) (hq : RdF w u g.es := by exact rdA) :
    Calls Tryz.prog 78 #[.agg #[v, u]] w (Ret (fun _ : Unit => .int .i64 (if g.ok then (threesL (adjL g) : Int) else 0)) (fun _ => []) w) := by
  have o1 := hr.one
  have o2 := hq.one
  by_cases hg : g.ok
  · have hgt := gok_t hg
    have hnl := hg.1.len
    have hA := AOk.of hg
    have hal := hA.1
    rw [if_pos hg]
    refine enter (args := _) Tryz.func78 rfl Tryz.ntmps78 (by simp) ?_
    repeat' (first | refine E.st ?_ | refine E.cl (h := fun _ w _ => c_i_GraphOk_t w hgt) (k := ?_) | refine E.cm (h := fun w hw => hN w hg (hr.now hw) (hq.now hw)) (k := fun z => E.wy z.1.2 (fun _ => E.wy z.2.2 (fun hM => E.wy (show z.2.1.length = g.ns.length from z.2.2.1.trans hA.1) (fun hzl => ?_)))) | refine E.q3 ?_ | refine E.q ?_ | refine E.qs ?_ | refine E.q2 ?_ | refine E.q4 ?_ | refine E.tr ?_ | refine E.ap (fun _ _ => ?_) | refine E.b1 (fun _ _ => ?_) | refine E.b0 (fun _ _ => ?_) | refine E.bsn (fun _ _ => ?_) | refine E.mk (fun _ _ => ?_) | refine E.bxO (fun _ => ?_) | refine E.al (fun _ => ?_) | refine E.sbO ?_ | refine E.dq ?_ | refine E.ct ?_ | refine E.cf ?_ | refine E.cs (fun hh => ?_) (fun hh => ?_) | refine E.at_block_other rfl ?_)
    have hrows : ∀ b, b < g.ns.length → ((adjL g).getD b []).length ≤ 40 := fun b hb => by
      have hrw : (adjL g)[b]? = some ((adjL g).getD b []) := getD_at (by omega)
      have := row_len (hA.2 b _ hrw).1 (hA.2 b _ hrw).2 hb
      omega
    have hend : tsum3 (adjL g) g.ns.length = threesL (adjL g) := by unfold tsum3 threesL; rw [hal]
    refine lq (fun i : Nat => i ≤ z.2.1.length ∧ tsum3 (adjL g) i ≤ 1600 * i) (fun i => [(17, .pl (.int .i64 (i : Int))), (4, .pl (.int .i64 ((tsum3 (adjL g) i : Nat) : Int)))]) (fun _ => []) (fun i => z.2.1.length - i) 0 ⟨Nat.zero_le _, by simp [tsum3]⟩ (fun i hi => ?_)
    obtain ⟨hi, hb⟩ := hi
    rcases Nat.lt_or_ge i z.2.1.length with hlt | hge
    · obtain ⟨x, hx⟩ := get_lt hlt
      have hrw : (adjL g)[i]? = some ((adjL g).getD i []) := getD_at (by omega)
      have hAr := hA.2 i _ hrw
      have hrl := row_len hAr.1 hAr.2 (by omega : i < g.ns.length)
      have hts := tsum3_step (adj := adjL g) (i := i)
      have hfs := f3_sum_le (adj := adjL g) (a := i) ((adjL g).getD i []) (fun b hb => hrows b (hAr.1 b hb).1)
      have hzr : (zL ((adjL g).getD i [])).length = ((adjL g).getD i []).length := zL_len
      dsimp only [List.append_eq, List.nil_append, List.cons_append]
      refine E.wr hx hrw (fun hin => ?_)
      repeat' (first | refine E.st ?_ | refine E.q3 ?_ | refine E.q ?_ | refine E.qs ?_ | refine E.q2 ?_ | refine E.q4 ?_ | refine E.tr ?_ | refine E.ap (fun _ _ => ?_) | refine E.b1 (fun _ _ => ?_) | refine E.b0 (fun _ _ => ?_) | refine E.bsn (fun _ _ => ?_) | refine E.mk (fun _ _ => ?_) | refine E.bxO (fun _ => ?_) | refine E.al (fun _ => ?_) | refine E.sbO ?_ | refine E.dq ?_ | refine E.ct ?_ | refine E.cf ?_ | refine E.cs (fun hh => ?_) (fun hh => ?_) | refine E.at_block_other rfl ?_)
      refine lq (fun y : Nat × Nat => y.1 ≤ ((adjL g).getD i []).length ∧ y.2 + ((((adjL g).getD i []).drop y.1).map (f3 (adjL g) i)).sum = tsum3 (adjL g) i + (((adjL g).getD i []).map (f3 (adjL g) i)).sum) (fun y => [(25, .pl (.int .i64 (y.1 : Int))), (4, .pl (.int .i64 (y.2 : Int)))]) (fun _ => []) (fun y => ((adjL g).getD i []).length - y.1) (0, tsum3 (adjL g) i) ⟨Nat.zero_le _, by simp⟩ (fun y hy => ?_)
      obtain ⟨j, c⟩ := y
      obtain ⟨hj, hc⟩ := hy
      dsimp only [List.append_eq, List.nil_append, List.cons_append] at hj hc ⊢
      rcases Nat.lt_or_ge j ((adjL g).getD i []).length with hlt2 | hge2
      · obtain ⟨b, hbj⟩ := get_lt hlt2
        have hbz := zL_get hbj
        have hbn := (hAr.1 b (List.mem_of_getElem? hbj)).1
        rw [drop_sum hbj] at hc
        obtain ⟨xb, hxb⟩ := get_lt (xs := z.2.1) (k := b) (by omega)
        have hrb : (adjL g)[b]? = some ((adjL g).getD b []) := getD_at (by omega)
        have hzb : (zL ((adjL g).getD b [])).length = ((adjL g).getD b []).length := zL_len
        have hlb := hrows b hbn
        refine E.wr hxb hrb (fun hinb => ?_)
        by_cases hbi : b < i
        · have hf : f3 (adjL g) i b = 0 := if_pos hbi
          rw [hf] at hc
          repeat' (first | refine E.st ?_ | refine E.q3 ?_ | refine E.q ?_ | refine E.qs ?_ | refine E.q2 ?_ | refine E.q4 ?_ | refine E.tr ?_ | refine E.ap (fun _ _ => ?_) | refine E.b1 (fun _ _ => ?_) | refine E.b0 (fun _ _ => ?_) | refine E.bsn (fun _ _ => ?_) | refine E.mk (fun _ _ => ?_) | refine E.bxO (fun _ => ?_) | refine E.al (fun _ => ?_) | refine E.sbO ?_ | refine E.dq ?_ | refine E.ct ?_ | refine E.cf ?_ | refine E.cs (fun hh => ?_) (fun hh => ?_) | refine E.at_block_other rfl ?_)
          exact rd (α := Nat × Nat) (j + 1, c) ⟨hlt2, by dsimp only; omega⟩
        · have hf : f3 (adjL g) i b = ((adjL g).getD b []).countP (fun c => decide (b < c) && decide (c ∈ (adjL g).getD i [])) := if_neg hbi
          rw [hf] at hc
          repeat' (first | refine E.st ?_ | refine E.q3 ?_ | refine E.q ?_ | refine E.qs ?_ | refine E.q2 ?_ | refine E.q4 ?_ | refine E.tr ?_ | refine E.ap (fun _ _ => ?_) | refine E.b1 (fun _ _ => ?_) | refine E.b0 (fun _ _ => ?_) | refine E.bsn (fun _ _ => ?_) | refine E.mk (fun _ _ => ?_) | refine E.bxO (fun _ => ?_) | refine E.al (fun _ => ?_) | refine E.sbO ?_ | refine E.dq ?_ | refine E.ct ?_ | refine E.cf ?_ | refine E.cs (fun hh => ?_) (fun hh => ?_) | refine E.at_block_other rfl ?_)
          refine lq (fun y : Nat × Nat => y.1 ≤ ((adjL g).getD b []).length ∧ y.2 + ((((adjL g).getD b []).drop y.1).countP (fun c => decide (b < c) && decide (c ∈ (adjL g).getD i [])) + ((((adjL g).getD i []).drop (j + 1)).map (f3 (adjL g) i)).sum) = tsum3 (adjL g) i + (((adjL g).getD i []).map (f3 (adjL g) i)).sum) (fun y => [(37, .pl (.int .i64 (y.1 : Int))), (4, .pl (.int .i64 (y.2 : Int)))]) (fun _ => []) (fun y => ((adjL g).getD b []).length - y.1) (0, c) ⟨Nat.zero_le _, by simpa using hc⟩ (fun y hy => ?_)
          obtain ⟨m, c3⟩ := y
          obtain ⟨hm, hc3⟩ := hy
          dsimp only [List.append_eq, List.nil_append, List.cons_append] at hm hc3 ⊢
          rcases Nat.lt_or_ge m ((adjL g).getD b []).length with hlt3 | hge3
          · obtain ⟨o, hom⟩ := get_lt hlt3
            have hoz := zL_get hom
            rw [drop_countP hom] at hc3
            have hmz := mem_zL (r := (adjL g).getD i []) (o := o)
            repeat' (first | refine E.st ?_ | refine E.cl (h := fun _ w hw => c_hasI w (hin.att hw)) (k := ?_) | refine E.q3 ?_ | refine E.q ?_ | refine E.qs ?_ | refine E.q2 ?_ | refine E.q4 ?_ | refine E.tr ?_ | refine E.ap (fun _ _ => ?_) | refine E.b1 (fun _ _ => ?_) | refine E.b0 (fun _ _ => ?_) | refine E.bsn (fun _ _ => ?_) | refine E.mk (fun _ _ => ?_) | refine E.bxO (fun _ => ?_) | refine E.al (fun _ => ?_) | refine E.sbO ?_ | refine E.dq ?_ | refine E.ct ?_ | refine E.cf ?_ | refine E.cs (fun hh => ?_) (fun hh => ?_) | refine E.at_block_other rfl ?_)
            · have e1 : (decide (b < o) && decide (o ∈ (adjL g).getD i [])) = true := by
                rw [Bool.and_eq_true, decide_eq_true_eq, decide_eq_true_eq]
                exact ⟨by omega, hmz.1 hh.2⟩
              rw [if_pos e1] at hc3
              exact rd (α := Nat × Nat) (m + 1, c3 + 1) ⟨hlt3, by dsimp only; omega⟩
            · have e1 : ¬ (decide (b < o) && decide (o ∈ (adjL g).getD i [])) = true := by
                rw [Bool.and_eq_true, decide_eq_true_eq, decide_eq_true_eq]
                rintro ⟨h1, h2⟩
                rcases hh with h | h
                · omega
                · exact h (hmz.2 h2)
              rw [if_neg e1] at hc3
              exact rd (α := Nat × Nat) (m + 1, c3) ⟨hlt3, by dsimp only; omega⟩
          · repeat' (first | refine E.st ?_ | refine E.q3 ?_ | refine E.q ?_ | refine E.qs ?_ | refine E.q2 ?_ | refine E.q4 ?_ | refine E.tr ?_ | refine E.ap (fun _ _ => ?_) | refine E.b1 (fun _ _ => ?_) | refine E.b0 (fun _ _ => ?_) | refine E.bsn (fun _ _ => ?_) | refine E.mk (fun _ _ => ?_) | refine E.bxO (fun _ => ?_) | refine E.al (fun _ => ?_) | refine E.sbO ?_ | refine E.dq ?_ | refine E.ct ?_ | refine E.cf ?_ | refine E.cs (fun hh => ?_) (fun hh => ?_) | refine E.at_block_other rfl ?_)
            rw [List.drop_of_length_le hge3] at hc3
            simp only [List.countP_nil, Nat.zero_add] at hc3
            exact rd (α := Nat × Nat) (j + 1, c3) ⟨hlt2, hc3⟩
      · repeat' (first | refine E.st ?_ | refine E.q3 ?_ | refine E.q ?_ | refine E.qs ?_ | refine E.q2 ?_ | refine E.q4 ?_ | refine E.tr ?_ | refine E.ap (fun _ _ => ?_) | refine E.b1 (fun _ _ => ?_) | refine E.b0 (fun _ _ => ?_) | refine E.bsn (fun _ _ => ?_) | refine E.mk (fun _ _ => ?_) | refine E.bxO (fun _ => ?_) | refine E.al (fun _ => ?_) | refine E.sbO ?_ | refine E.dq ?_ | refine E.ct ?_ | refine E.cf ?_ | refine E.cs (fun hh => ?_) (fun hh => ?_) | refine E.at_block_other rfl ?_)
        rw [List.drop_of_length_le hge2] at hc
        simp only [List.map_nil, List.sum_nil, Nat.add_zero] at hc
        refine rd (i + 1) ⟨hlt, by omega⟩ (hF := FSub.int rfl (by omega) (FSub.int rfl (by omega) fs))
    · have hie : i = g.ns.length := by omega
      subst hie
      rw [hend]
      repeat' (first | refine E.st ?_ | refine E.q3 ?_ | refine E.q ?_ | refine E.qs ?_ | refine E.q2 ?_ | refine E.q4 ?_ | refine E.tr ?_ | refine E.ap (fun _ _ => ?_) | refine E.b1 (fun _ _ => ?_) | refine E.b0 (fun _ _ => ?_) | refine E.bsn (fun _ _ => ?_) | refine E.mk (fun _ _ => ?_) | refine E.bxO (fun _ => ?_) | refine E.al (fun _ => ?_) | refine E.sbO ?_ | refine E.dq ?_ | refine E.ct ?_ | refine E.cf ?_ | refine E.cs (fun hh => ?_) (fun hh => ?_) | refine E.at_block_other rfl ?_)
      exact ri
  · have hgf := gok_f hg
    rw [if_neg hg]
    refine enter (args := _) Tryz.func78 rfl Tryz.ntmps78 (by simp) ?_
    repeat' (first | refine E.st ?_ | refine E.cl (h := fun _ w _ => c_i_GraphOk_f w hgf) (k := ?_)  | refine E.q3 ?_ | refine E.q ?_ | refine E.qs ?_ | refine E.q2 ?_ | refine E.q4 ?_ | refine E.tr ?_ | refine E.ap (fun _ _ => ?_) | refine E.b1 (fun _ _ => ?_) | refine E.b0 (fun _ _ => ?_) | refine E.bsn (fun _ _ => ?_) | refine E.mk (fun _ _ => ?_) | refine E.bxO (fun _ => ?_) | refine E.al (fun _ => ?_) | refine E.sbO ?_ | refine E.dq ?_ | refine E.ct ?_ | refine E.cf ?_ | refine E.cs (fun hh => ?_) (fun hh => ?_) | refine E.at_block_other rfl ?_)
    exact ri
end E
end Go.Proofs.YtpiiapoafmnhhaaGreat
/- The program's answer to a question, given its rows of nodes. -/
namespace Go.Proofs.YtpiiapoafmnhhaaGreat
namespace E
open Go Go.RowKit
set_option linter.unusedSimpArgs false
set_option linter.unusedVariables false
set_option maxHeartbeats 1000000
set_option maxRecDepth 10000
attribute [local irreducible] HC HL HQ HX HO At Y YV Opd Opds KnX Sl Ld Src GV RV Calls Code.wp eptr adr RdF ownF OneX HG LdC
/-- What is asked of the program's GraphNear. -/
def GraphNearC : Prop := ∀ {v u : Value} {g : Gr} {l n : Int} (w : World), g.ok → RdF w v g.ns → RdF w u g.es → Calls Tryz.prog 74 #[.agg #[v, u], .agg #[.int .i64 l, .int .i64 n]] w (Ret (fun z : V1 => z.1) (fun z => [ownF 32 z.1 (nearL g.es ⟨l, n⟩)]) w)
theorem c_i_QueryOk {k l n : Int} (w : World) : Calls Tryz.prog 35 #[.agg #[.int .i64 k, .int .i64 l, .int .i64 n]] w (Ret (fun _ : Unit => .bool (qok ⟨k, ⟨l, n⟩⟩)) (fun _ => []) w) := by
  refine enter (args := _) Tryz.func35 rfl Tryz.ntmps35 (by simp) ?_
  repeat' (first | refine E.st ?_ | refine E.cl (h := fun _ w _ => c_i_NodeOk w) (k := ?_)  | refine E.q3 ?_ | refine E.q ?_ | refine E.qs ?_ | refine E.q2 ?_ | refine E.q4 ?_ | refine E.tr ?_ | refine E.ap (fun _ _ => ?_) | refine E.b1 (fun _ _ => ?_) | refine E.b0 (fun _ _ => ?_) | refine E.bsn (fun _ _ => ?_) | refine E.mk (fun _ _ => ?_) | refine E.bxO (fun _ => ?_) | refine E.al (fun _ => ?_) | refine E.sbO ?_ | refine E.dq ?_ | refine E.ct ?_ | refine E.cf ?_ | refine E.cs (fun hh => ?_) (fun hh => ?_) | refine E.at_block_other rfl ?_)
  all_goals (refine rb ?_; simp_all [qok])
theorem c_i_QueryOk_t {k l n : Int} (w : World) (h : qok ⟨k, ⟨l, n⟩⟩ = true) : Calls Tryz.prog 35 #[.agg #[.int .i64 k, .int .i64 l, .int .i64 n]] w (Ret (fun _ : Unit => .bool true) (fun _ => []) w) := by
  have := c_i_QueryOk (k := k) (l := l) (n := n) w
  rwa [h] at this
theorem c_i_QueryOk_f {k l n : Int} (w : World) (h : qok ⟨k, ⟨l, n⟩⟩ = false) : Calls Tryz.prog 35 #[.agg #[.int .i64 k, .int .i64 l, .int .i64 n]] w (Ret (fun _ : Unit => .bool false) (fun _ => []) w) := by
  have := c_i_QueryOk (k := k) (l := l) (n := n) w
  rwa [h] at this
theorem c_i_QueryAsk (hG : GraphNearC) (hN : NearC) {v u : Value} {g : Gr} {k l n : Int} (w : World) (hr : RdF w v g.ns := by exact rdA) (hq : RdF w u g.es := by exact rdA) :
    Calls Tryz.prog 25 #[.agg #[v, u], .agg #[.int .i64 k, .int .i64 l, .int .i64 n]] w (Ret (fun z : V1 => z.1) (fun z => [ownF 3 z.1 (askL g ⟨k, ⟨l, n⟩⟩)]) w) := by
  have o1 := hr.one
  have o2 := hq.one
  by_cases hg : g.ok
  · have hgt := gok_t hg
    have hnl := hg.1.len
    have hel := hg.2.len
    have hnl2 := near_len g.es ⟨l, n⟩
    cases hqk : qok ⟨k, ⟨l, n⟩⟩ with
    | false =>
      have ha : askL g ⟨k, ⟨l, n⟩⟩ = [] := if_neg (fun h => by rw [hqk] at h; cases h.2)
      rw [ha]
      refine enter (args := _) Tryz.func25 rfl Tryz.ntmps25 (by simp) ?_
      refine E.nl 3 (α := Int) ?_
      repeat' (first | refine E.st ?_ | refine E.cl (h := fun _ w _ => c_i_GraphOk_t w hgt) (k := ?_) | refine E.cl (h := fun _ w _ => c_i_QueryOk_f w hqk) (k := ?_)  | refine E.q3 ?_ | refine E.q ?_ | refine E.qs ?_ | refine E.q2 ?_ | refine E.q4 ?_ | refine E.tr ?_ | refine E.ap (fun _ _ => ?_) | refine E.b1 (fun _ _ => ?_) | refine E.b0 (fun _ _ => ?_) | refine E.bsn (fun _ _ => ?_) | refine E.mk (fun _ _ => ?_) | refine E.bxO (fun _ => ?_) | refine E.al (fun _ => ?_) | refine E.sbO ?_ | refine E.dq ?_ | refine E.ct ?_ | refine E.cf ?_ | refine E.cs (fun hh => ?_) (fun hh => ?_) | refine E.at_block_other rfl ?_)
      all_goals first
        | exact r1 (α := V1) ⟨_, rfl⟩
        | (exfalso; simp_all; done)
    | true =>
      have ha : askL g ⟨k, ⟨l, n⟩⟩ = askG g ⟨k, ⟨l, n⟩⟩ := if_pos ⟨hg, hqk⟩
      have h4 := qok_four hqk
      rw [ha]
      unfold askG
      dsimp only
      by_cases hk1 : k = 1
      · subst hk1
        have hnok : ∀ x ∈ nearL g.es ⟨l, n⟩, nok x = true := fun x hx => hg.1.1 x (near_mem_ns hg hx).1
        rw [if_pos rfl]
        refine enter (args := _) Tryz.func25 rfl Tryz.ntmps25 (by simp) ?_
        refine E.nl 3 (α := Int) ?_
        repeat' (first | refine E.st ?_ | refine E.cl (h := fun _ w _ => c_i_GraphOk_t w hgt) (k := ?_) | refine E.cl (h := fun _ w _ => c_i_QueryOk_t w hqk) (k := ?_) | refine E.cm (h := fun w hw => hG w hg (hr.now hw) (hq.now hw)) (k := fun y => E.wy y.2 (fun _ => ?_)) | refine E.q3 ?_ | refine E.q ?_ | refine E.qs ?_ | refine E.q2 ?_ | refine E.q4 ?_ | refine E.tr ?_ | refine E.ap (fun _ _ => ?_) | refine E.b1 (fun _ _ => ?_) | refine E.b0 (fun _ _ => ?_) | refine E.bsn (fun _ _ => ?_) | refine E.mk (fun _ _ => ?_) | refine E.bxO (fun _ => ?_) | refine E.al (fun _ => ?_) | refine E.sbO ?_ | refine E.dq ?_ | refine E.ct ?_ | refine E.cf ?_ | refine E.cs (fun hh => ?_) (fun hh => ?_) | refine E.at_block_other rfl ?_)
        · exact (hh.elim id id).elim
        refine lq (fun z : Nat × V1 => z.1 ≤ (nearL g.es ⟨l, n⟩).length) (fun z => [(25, .pl (.int .i64 (z.1 : Int))), (5, .pl z.2.1)]) (fun z => [ownF 3 z.2.1 (((nearL g.es ⟨l, n⟩).take z.1).map cd)]) (fun z => (nearL g.es ⟨l, n⟩).length - z.1) (0, ⟨.slice none 0 0, rfl⟩) (Nat.zero_le _) (fun z hz => ?_)
        obtain ⟨j, ⟨v5, h5⟩⟩ := z
        dsimp only at hz h5 ⊢
        have hlk : (((nearL g.es ⟨l, n⟩).take j).map cd).length ≤ 1000 := by simp; omega
        rcases Nat.lt_or_ge j (nearL g.es ⟨l, n⟩).length with hlt | hge
        · obtain ⟨⟨xl, xn⟩, hx⟩ := get_lt hlt
          have hcd := code_cd (hnok _ (List.mem_of_getElem? hx))
          repeat' (first | refine E.st ?_ | refine E.cl (h := fun _ w _ => c_i_NodeCode w) (k := ?_)  | refine E.q3 ?_ | refine E.q ?_ | refine E.qs ?_ | refine E.q2 ?_ | refine E.q4 ?_ | refine E.tr ?_ | refine E.ap (fun _ _ => ?_) | refine E.b1 (fun _ _ => ?_) | refine E.b0 (fun _ _ => ?_) | refine E.bsn (fun _ _ => ?_) | refine E.mk (fun _ _ => ?_) | refine E.bxO (fun _ => ?_) | refine E.al (fun _ => ?_) | refine E.sbO ?_ | refine E.dq ?_ | refine E.ct ?_ | refine E.cf ?_ | refine E.cs (fun hh => ?_) (fun hh => ?_) | refine E.at_block_other rfl ?_)
          refine rd (α := Nat × V1) (j + 1, ⟨_, ?_⟩) hlt (hK := KSub.ownF pk (by rw [hcd]; simp [List.take_add_one, hx]) ks)
          assumption
        · rw [List.take_of_length_le hge]
          repeat' (first | refine E.st ?_ | refine E.q3 ?_ | refine E.q ?_ | refine E.qs ?_ | refine E.q2 ?_ | refine E.q4 ?_ | refine E.tr ?_ | refine E.ap (fun _ _ => ?_) | refine E.b1 (fun _ _ => ?_) | refine E.b0 (fun _ _ => ?_) | refine E.bsn (fun _ _ => ?_) | refine E.mk (fun _ _ => ?_) | refine E.bxO (fun _ => ?_) | refine E.al (fun _ => ?_) | refine E.sbO ?_ | refine E.dq ?_ | refine E.ct ?_ | refine E.cf ?_ | refine E.cs (fun hh => ?_) (fun hh => ?_) | refine E.at_block_other rfl ?_)
          exact r1 (α := V1) ⟨v5, h5⟩
      · refine enter (args := _) Tryz.func25 rfl Tryz.ntmps25 (by simp) ?_
        repeat' (first | refine E.st ?_ | refine E.cl (h := fun _ w _ => c_i_GraphOk_t w hgt) (k := ?_) | refine E.cl (h := fun _ w _ => c_i_QueryOk_t w hqk) (k := ?_) | refine E.cm (h := fun w _ => c_i_WalkDist hN (g := g) w) (k := fun z => E.wy z.2 (fun _ => ?_)) | refine E.cm (h := fun w _ => c_i_WalkCore hN (g := g) w) (k := fun z => E.wy z.2 (fun _ => ?_)) | refine E.cl (h := fun _ w _ => c_i_WalkThrees hN (g := g) w) (k := ?_) | refine E.b1 (α := Int) (fun v9 h9 => ?_) | refine E.q3 ?_ | refine E.q ?_ | refine E.qs ?_ | refine E.q2 ?_ | refine E.q4 ?_ | refine E.tr ?_ | refine E.ap (fun _ _ => ?_) | refine E.b1 (fun _ _ => ?_) | refine E.b0 (fun _ _ => ?_) | refine E.bsn (fun _ _ => ?_) | refine E.mk (fun _ _ => ?_) | refine E.bxO (fun _ => ?_) | refine E.al (fun _ => ?_) | refine E.sbO ?_ | refine E.dq ?_ | refine E.ct ?_ | refine E.cf ?_ | refine E.cs (fun hh => ?_) (fun hh => ?_) | refine E.at_block_other rfl ?_)
        all_goals first
          | exact r1 (α := V1) ⟨_, by assumption⟩ (hK := KSub.ownF pk (by simp_all) ks)
          | (exfalso; simp_all; done)
  · have hgf := gok_f hg
    have ha : askL g ⟨k, ⟨l, n⟩⟩ = [] := if_neg (fun h => hg h.1)
    rw [ha]
    refine enter (args := _) Tryz.func25 rfl Tryz.ntmps25 (by simp) ?_
    refine E.nl 3 (α := Int) ?_
    repeat' (first | refine E.st ?_ | refine E.cl (h := fun _ w _ => c_i_GraphOk_f w hgf) (k := ?_) | refine E.cl (h := fun _ w _ => c_i_QueryOk w) (k := ?_)  | refine E.q3 ?_ | refine E.q ?_ | refine E.qs ?_ | refine E.q2 ?_ | refine E.q4 ?_ | refine E.tr ?_ | refine E.ap (fun _ _ => ?_) | refine E.b1 (fun _ _ => ?_) | refine E.b0 (fun _ _ => ?_) | refine E.bsn (fun _ _ => ?_) | refine E.mk (fun _ _ => ?_) | refine E.bxO (fun _ => ?_) | refine E.al (fun _ => ?_) | refine E.sbO ?_ | refine E.dq ?_ | refine E.ct ?_ | refine E.cf ?_ | refine E.cs (fun hh => ?_) (fun hh => ?_) | refine E.at_block_other rfl ?_)
    all_goals first
      | exact r1 (α := V1) ⟨_, rfl⟩
      | (exfalso; simp_all; done)
end E
end Go.Proofs.YtpiiapoafmnhhaaGreat
/- An append whose answer is told as a slice. -/
namespace Go.Proofs.YtpiiapoafmnhhaaGreat
namespace E
open Go Go.RowKit
set_option linter.unusedSimpArgs false
set_option linter.unusedVariables false
set_option maxHeartbeats 1000000
set_option maxRecDepth 10000
attribute [local irreducible] HC HL HQ HX HO At Y YV Opd Opds KnX Sl Ld Src GV RV Calls Code.wp eptr adr RdF ownF OneX HG LdC
theorem at_sv {N : Nat} {w0 : World} {Kn : Act → World → Prop} {d : Nat} {F : List (Nat × En)} {e : TypeId} {α : Type} [Flat α] {zs : List α} {K' : List Ck} (h : ∀ s : Sv, At N w0 Kn ((d, .pl (.slice s.a s.n s.c)) :: F) (ownF e (.slice s.a s.n s.c) zs :: K')) : ∀ v' : Value, v'.oneCell' = true → At N w0 Kn ((d, .pl v') :: F) (ownF e v' zs :: K') := by
  intro v' _
  unfold At
  intro a w ha hw
  obtain ⟨A, c, hv, _⟩ := (RdF.of_own (List.mem_cons_self) hw : RdF w v' zs).isl
  subst hv
  have h2 := h ⟨A, zs.length, c⟩
  unfold At at h2
  exact h2 a w ha hw
theorem aps {P : Program} {N : Nat} {w0 : World} {K K' : List Ck} {F : List (Nat × En)} {Q : Exit → Act → World → Prop} {ops : Array Oper} {rest : List Oper} {d : Nat} {t ty : TypeId} {pos : String} {af : Array Edge} {m m' : Md} {x y : Operand} {v u : Value} {α : Type} [Flat α] {e : TypeId} {xs ys : List α} {sz bytes : Nat} [T : TSlc P t e] [R : TRow P e sz bytes] (hr : ∀ s : Sv, HG P N w0 ops Q m' rest ((d, .pl (.slice s.a s.n s.c)) :: F) (ownF e (.slice s.a s.n s.c) (xs ++ ys) :: K')) (hN : d < N := by decide) (hx : Opd N F true x v := by exact Opd.pl rfl) (hy : Opd N F true y u := by exact Opd.pl rfl) (hp : Pick K (ownF e v xs) K' := by exact pk) (hs : Src w0 K' (Flat.k α) u ys.length (cells ys) := by first | exact Src.rdF (by assumption) | exact Src.ownF mm) (hb : (xs.length + ys.length) * bytes ≤ 140737488355328 ∧ xs.length + ys.length ≤ maxLen := by first | (simp only [maxLen]; omega) | (simp only [List.length_append, List.length_cons, List.length_nil, maxLen] at *; omega)) (hsz : sz = Flat.k α := by rfl) (hX : NX m m' := by first | exact NX.l | exact NX.q | exact NX.x _ _ _ _ | exact NX.y _ _ _ _) (hA : KA ops m := by first | exact KA.l | exact KA.y | exact KA.x (by decide +kernel)) (hB : ∀ (z : Sv), KB ops m (ownF e (.slice z.a z.n z.c) (xs ++ ys) :: K') := by first | exact fun _ => KB.l | exact fun _ => KB.x (Or.inr ks) | exact fun _ => KB.x (Or.inl (by decide +kernel)) | exact fun _ => KB.y (Or.inr ks) | exact fun _ => KB.y (Or.inl (by decide +kernel))) :
    HG P N w0 ops Q m (⟨some d, .call { callee := .builtin .append, args := #[x, y], argTypes := #[t, t] }, ty, pos, af, none⟩ :: rest) F K := hgo (Fi := fun s : Sv => (d, .pl (.slice s.a s.n s.c)) :: F) (Ki := fun s : Sv => ownF e (.slice s.a s.n s.c) (xs ++ ys) :: K') hA hB hX rfl hr (fun Q' Kn hk => ho_app hsz hN hx hy hp hs hb (at_sv hk))
end E
end Go.Proofs.YtpiiapoafmnhhaaGreat
/- The program's rows of places, given its rows of nodes. -/
namespace Go.Proofs.YtpiiapoafmnhhaaGreat
namespace E
open Go Go.RowKit
set_option linter.unusedSimpArgs false
set_option linter.unusedVariables false
set_option maxHeartbeats 1000000
set_option maxRecDepth 10000
attribute [local irreducible] HC HL HQ HX HO At Y YV Opd Opds KnX Sl Ld Src GV RV Calls Code.wp eptr adr RdF ownF OneX HG LdC
abbrev SvZ : Sv := ⟨none, 0, 0⟩
theorem ks_two {I y b : Ck} {R L : List Ck} : KSub (I :: y :: b :: (R ++ L)) ((R ++ [I]) ++ L) := by
  refine KSub.ofPermG _ _ [y, b] ?_
  refine (List.Perm.cons _ (List.perm_append_comm (l₁ := [y, b]) (l₂ := R ++ L))).trans ?_
  rw [List.append_assoc, List.append_assoc, List.append_assoc]
  exact List.perm_middle.symm
theorem near_of (hG : GraphNearC) : NearC := by
  intro v u g w hg hr hq
  have o1 := hr.one
  have o2 := hq.one
  have hnl := hg.1.len
  have hel := hg.2.len
  have hA := AOk.of hg
  have hal := hA.1
  refine enter (args := _) Tryz.func140 rfl Tryz.ntmps140 (by simp) ?_
  repeat' (first | refine E.st ?_ | refine E.mk (α := Sv) (z' := SvZ) (fun v3 h3 => ?_) | refine E.q3 ?_ | refine E.q ?_ | refine E.qs ?_ | refine E.q2 ?_ | refine E.q4 ?_ | refine E.tr ?_ | refine E.ap (fun _ _ => ?_) | refine E.b1 (fun _ _ => ?_) | refine E.b0 (fun _ _ => ?_) | refine E.bsn (fun _ _ => ?_) | refine E.mk (fun _ _ => ?_) | refine E.bxO (fun _ => ?_) | refine E.al (fun _ => ?_) | refine E.sbO ?_ | refine E.dq ?_ | refine E.ct ?_ | refine E.cf ?_ | refine E.cs (fun hh => ?_) (fun hh => ?_) | refine E.at_block_other rfl ?_)
  have hl0 : (List.replicate g.ns.length SvZ).length = g.ns.length := List.length_replicate
  refine lq (fun p : Nat × List Sv => p.1 ≤ g.ns.length ∧ Match p.2 ((adjL g).take p.1)) (fun p => [(15, .pl (.int .i64 (p.1 : Int)))]) (fun p => ownF 48 v3 (p.2 ++ List.replicate (g.ns.length - p.1) SvZ) :: inn 3 p.2 ((adjL g).take p.1)) (fun p => g.ns.length - p.1) (0, []) ⟨Nat.zero_le _, Match.nil⟩ (fun p hp => ?_) (hK := Spl.ownF pk (by simp) (Spl.nil _))
  obtain ⟨k, rows⟩ := p
  obtain ⟨hk, hM⟩ := hp
  simp only at hk hM
  dsimp only
  have hrl : rows.length = k := by rw [hM.1, List.length_take]; omega
  rcases Nat.lt_or_ge k g.ns.length with hlt | hge
  · obtain ⟨⟨xl, xn⟩, hx⟩ := get_lt hlt
    have hadj := adj_get hx
    have hnl2 := near_len g.es ⟨xl, xn⟩
    have hg3 : (rows ++ List.replicate (g.ns.length - k) SvZ)[k]? = some SvZ := by
      rw [List.getElem?_append_right (by omega), hrl, Nat.sub_self, List.getElem?_replicate, if_pos (by omega)]
    have hRl : (rows ++ List.replicate (g.ns.length - k) SvZ).length = g.ns.length := by simp; omega
    refine E.nl 3 (α := Int) ?_
    repeat' (first | refine E.st ?_ | refine E.cm (h := fun w hw => hG w hg (hr.now hw) (hq.now hw)) (k := fun y => E.wy y.2 (fun _ => ?_)) | refine E.q3 ?_ | refine E.q ?_ | refine E.qs ?_ | refine E.q2 ?_ | refine E.q4 ?_ | refine E.tr ?_ | refine E.ap (fun _ _ => ?_) | refine E.b1 (fun _ _ => ?_) | refine E.b0 (fun _ _ => ?_) | refine E.bsn (fun _ _ => ?_) | refine E.mk (fun _ _ => ?_) | refine E.bxO (fun _ => ?_) | refine E.al (fun _ => ?_) | refine E.sbO ?_ | refine E.dq ?_ | refine E.ct ?_ | refine E.cf ?_ | refine E.cs (fun hh => ?_) (fun hh => ?_) | refine E.at_block_other rfl ?_)
    have hsz : rows ++ List.replicate (g.ns.length - k) SvZ = (rows ++ [SvZ]) ++ List.replicate (g.ns.length - (k + 1)) SvZ := by
      rw [show g.ns.length - k = (g.ns.length - (k + 1)) + 1 from by omega, List.replicate_succ, List.append_assoc]
      rfl
    refine lq (fun z : Nat × Sv => z.1 ≤ (nearL g.es ⟨xl, xn⟩).length) (fun z => [(24, .pl (.int .i64 (z.1 : Int)))]) (fun z => [ownF 48 v3 ((rows ++ [z.2]) ++ List.replicate (g.ns.length - (k + 1)) SvZ), ownF 3 (.slice z.2.a z.2.n z.2.c) (zL (((nearL g.es ⟨xl, xn⟩).take z.1).map (plc g.ns)))]) (fun z => (nearL g.es ⟨xl, xn⟩).length - z.1) (0, SvZ) (Nat.zero_le _) (fun z hz => ?_) (hK := Spl.ownF pk hsz (Spl.ownF pk rfl (Spl.nil _)))
    obtain ⟨j, s⟩ := z
    dsimp only at hz ⊢
    have hgs : ((rows ++ [s]) ++ List.replicate (g.ns.length - (k + 1)) SvZ)[k]? = some s := by
      rw [List.append_assoc, List.getElem?_append_right (by omega), hrl, Nat.sub_self]
      rfl
    have hls : ((rows ++ [s]) ++ List.replicate (g.ns.length - (k + 1)) SvZ).length = g.ns.length := by simp; omega
    have hset : ∀ s' : Sv, ((rows ++ [s]) ++ List.replicate (g.ns.length - (k + 1)) SvZ).set k s' = (rows ++ [s']) ++ List.replicate (g.ns.length - (k + 1)) SvZ := fun s' => by
      rw [List.append_assoc, List.set_append_right _ _ (by omega), hrl, Nat.sub_self, List.append_assoc]
      rfl
    have hlz : (zL (((nearL g.es ⟨xl, xn⟩).take j).map (plc g.ns))).length ≤ 100 := by rw [zL_len]; simp; omega
    rcases Nat.lt_or_ge j (nearL g.es ⟨xl, xn⟩).length with hlt2 | hge2
    · obtain ⟨⟨yl, yn⟩, hy⟩ := get_lt hlt2
      have hym := (near_mem_ns hg (List.mem_of_getElem? hy)).1
      have hzs : zL (((nearL g.es ⟨xl, xn⟩).take (j + 1)).map (plc g.ns)) = zL (((nearL g.es ⟨xl, xn⟩).take j).map (plc g.ns)) ++ [((plc g.ns ⟨yl, yn⟩ : Nat) : Int)] := by simp [zL, List.take_add_one, hy]
      repeat' (first | refine E.st ?_ | refine E.cl (h := fun _ w _ => c_nodePlace_m w hg.1 hym) (k := ?_) | refine E.dxo (.slice s.a s.n s.c) [0, 1, 2, 3, 4, 5, 6, 7, 8, 9, 10, 11, 12] ?_ | refine E.aps (fun s' => ?_) | refine E.q3 ?_ | refine E.q ?_ | refine E.qs ?_ | refine E.q2 ?_ | refine E.q4 ?_ | refine E.tr ?_ | refine E.ap (fun _ _ => ?_) | refine E.b1 (fun _ _ => ?_) | refine E.b0 (fun _ _ => ?_) | refine E.bsn (fun _ _ => ?_) | refine E.mk (fun _ _ => ?_) | refine E.bxO (fun _ => ?_) | refine E.al (fun _ => ?_) | refine E.sbO ?_ | refine E.dq ?_ | refine E.ct ?_ | refine E.cf ?_ | refine E.cs (fun hh => ?_) (fun hh => ?_) | refine E.at_block_other rfl ?_)
      exact rd (α := Nat × Sv) (j + 1, s') hlt2 (hK := KSub.ownF pk (hset s') (KSub.ownF pk hzs.symm ks))
    · rw [List.take_of_length_le hge2]
      have hrow : (adjL g)[k]? = some ((nearL g.es ⟨xl, xn⟩).map (plc g.ns)) := hadj
      repeat' (first | refine E.st ?_ | refine E.q3 ?_ | refine E.q ?_ | refine E.qs ?_ | refine E.q2 ?_ | refine E.q4 ?_ | refine E.tr ?_ | refine E.ap (fun _ _ => ?_) | refine E.b1 (fun _ _ => ?_) | refine E.b0 (fun _ _ => ?_) | refine E.bsn (fun _ _ => ?_) | refine E.mk (fun _ _ => ?_) | refine E.bxO (fun _ => ?_) | refine E.al (fun _ => ?_) | refine E.sbO ?_ | refine E.dq ?_ | refine E.ct ?_ | refine E.cf ?_ | refine E.cs (fun hh => ?_) (fun hh => ?_) | refine E.at_block_other rfl ?_)
      refine rd (α := Nat × List Sv) (k + 1, rows ++ [s]) ⟨by dsimp only; omega, hM.snoc hrow trivial⟩ (hK := KSub.ownF pk rfl ?_)
      dsimp only
      rw [inn_snoc hM hrow]
      change KSub (_ :: _ :: _ :: (_ ++ _)) ((_ ++ [_]) ++ _)
      exact ks_two
  · repeat' (first | refine E.st ?_ | refine E.q3 ?_ | refine E.q ?_ | refine E.qs ?_ | refine E.q2 ?_ | refine E.q4 ?_ | refine E.tr ?_ | refine E.ap (fun _ _ => ?_) | refine E.b1 (fun _ _ => ?_) | refine E.b0 (fun _ _ => ?_) | refine E.bsn (fun _ _ => ?_) | refine E.mk (fun _ _ => ?_) | refine E.bxO (fun _ => ?_) | refine E.al (fun _ => ?_) | refine E.sbO ?_ | refine E.dq ?_ | refine E.ct ?_ | refine E.cf ?_ | refine E.cs (fun hh => ?_) (fun hh => ?_) | refine E.at_block_other rfl ?_)
    have hke : k = g.ns.length := by omega
    subst hke
    rw [List.take_of_length_le (by omega)] at hM ⊢
    exact r1 (α := V1 × { xs : List Sv // Match xs (adjL g) }) (⟨v3, h3⟩, ⟨rows, hM⟩) (hK := KSub.ownF (Pick.here _ _) (by simp) (KSub.ofPermG _ _ _ (List.Perm.refl _)))
end E
end Go.Proofs.YtpiiapoafmnhhaaGreat
