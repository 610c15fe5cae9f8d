/- Data with lists within: pools, graphs, worlds; contracts of the laws' helpers. -/
import Derived.Test.YtmopokamcbcggaaDa
namespace Go.Proofs.Ytmopokamcbcggaa
namespace E
open Go Go.RowKit
set_option linter.unusedSimpArgs false
set_option linter.unusedVariables false
set_option maxHeartbeats 1000000
set_option maxRecDepth 10000
attribute [local irreducible] HC HL HQ HX HO At Y YV Opd Opds KnX Sl Ld Src GV RV Calls Code.wp eptr adr RdF ownF OneX HG LdC
structure PlR where
  z : Int
  s : Sv
structure Pl where
  z : Int
  l : List Pg
  deriving DecidableEq
instance : Flat PlR := ⟨2, fun x => [.int .i64 x.z, .slice x.s.a x.s.n x.s.c], fun _ => rfl, fun _ u h => by simp only [List.mem_cons, List.mem_nil_iff, or_false] at h; (repeat' (rcases h with rfl | h)) <;> first | rfl | (subst h; rfl)⟩
instance (z : Int) (A : Option Addr) (n c : Nat) : MkI PlR [.int .i64 z, .slice A n c] ⟨z, ⟨A, n, c⟩⟩ := ⟨rfl⟩
instance : ElT Try.prog 98 PlR := ⟨trivial⟩
instance : Nst Pl PlR Pg := ⟨(·.s), (·.l), fun x d => x.z = d.z⟩
/-- Pages that two calls of a kind add up. -/
def psum (ps : List Pl) (k : Nat) : Nat := ((ps.take k).map (·.l.length)).sum
def tot (ps : List Pl) : Nat := ps.length + psum ps ps.length
theorem psum_step {ps : List Pl} {k : Nat} {p : Pl} (h : ps[k]? = some p) : psum ps (k + 1) = psum ps k + p.l.length := by
  simp [psum, List.take_add_one, h]
theorem psum_le (ps : List Pl) (k : Nat) : psum ps k ≤ psum ps ps.length := by
  unfold psum
  rw [List.take_length]
  conv => rhs; rw [← List.take_append_drop k ps, List.map_append, List.sum_append]
  omega
theorem tot_bounds {ps : List Pl} {k : Nat} (h : tot ps ≤ k) : ps.length ≤ k ∧ ∀ p ∈ ps, p.l.length ≤ k := by
  refine ⟨by unfold tot at h; omega, fun p hp => ?_⟩
  obtain ⟨i, hi⟩ := List.getElem?_of_mem hp
  have h1 := psum_step hi
  have h2 := psum_le ps (i + 1)
  unfold tot at h
  omega
theorem c_szPool {z : Int} {A : Option Addr} {n m : Nat} {xs : List Pg} {k : Int} (w : World) (hr : RdF w (.slice A n m) xs := by exact rdA) (hk : 0 ≤ k ∧ k ≤ 1048576 := by omega) : Calls Try.prog 115 #[.agg #[.int .i64 z, .slice A n m], .int .i64 k] w (Ret (fun _ : Unit => .int .i64 (if k - xs.length < 0 then -1 else k - xs.length)) (fun _ => []) w) := by
  by_cases hl : (xs.length : Int) ≤ k
  · rw [if_neg (by omega)]
    refine enter (args := _) Try.func115 rfl Try.ntmps115 (by simp) ?_
    repeat' (first | refine E.st ?_ | refine E.cl (h := fun _ w _ => c_szPageS_yes w) (k := ?_)  | refine E.q ?_ | refine E.qs ?_ | refine E.q2 ?_ | refine E.tr ?_ | refine E.ap (fun _ _ => ?_) | refine E.b1 (fun _ _ => ?_) | refine E.b0 (fun _ _ => ?_) | refine E.bsn (fun _ _ => ?_) | refine E.mk (fun _ _ => ?_) | refine E.bx (fun _ => ?_) | refine E.al (fun _ => ?_) | refine E.sb ?_ | refine E.dq ?_ | refine E.ct ?_ | refine E.cf ?_ | refine E.cs (fun hh => ?_) (fun hh => ?_) | refine E.at_block_other rfl ?_)
    exact ri
  · rw [if_pos (by omega)]
    refine enter (args := _) Try.func115 rfl Try.ntmps115 (by simp) ?_
    repeat' (first | refine E.st ?_ | refine E.cl (h := fun _ w _ => c_szPageS_no w) (k := ?_)  | refine E.q ?_ | refine E.qs ?_ | refine E.q2 ?_ | refine E.tr ?_ | refine E.ap (fun _ _ => ?_) | refine E.b1 (fun _ _ => ?_) | refine E.b0 (fun _ _ => ?_) | refine E.bsn (fun _ _ => ?_) | refine E.mk (fun _ _ => ?_) | refine E.bx (fun _ => ?_) | refine E.al (fun _ => ?_) | refine E.sb ?_ | refine E.dq ?_ | refine E.ct ?_ | refine E.cf ?_ | refine E.cs (fun hh => ?_) (fun hh => ?_) | refine E.at_block_other rfl ?_)
    exact ri
theorem c_szPoolS {v : Value} {ps : List Pl} {k : Int} (w : World) (hr : RdN w v ps := by exact rdN) (hk0 : 0 ≤ k ∧ k ≤ 1048576 := by omega) : Calls Try.prog 50 #[v, .int .i64 k] w (Ret (fun _ : Unit => .int .i64 (if k - tot ps < 0 then -1 else k - tot ps)) (fun _ => []) w) := by
  obtain ⟨xs, hx0, ⟨hl, hM⟩, hin⟩ := hr
  have m1 := hx0.le
  simp only [maxLen] at m1
  have ht : tot ps = xs.length + psum ps ps.length := by rw [tot, hl]
  refine enter (args := _) Try.func50 rfl Try.ntmps50 (by simp) ?_
  repeat' (first | refine E.st ?_ | refine E.q ?_ | refine E.qs ?_ | refine E.q2 ?_ | refine E.tr ?_ | refine E.ap (fun _ _ => ?_) | refine E.b1 (fun _ _ => ?_) | refine E.b0 (fun _ _ => ?_) | refine E.bsn (fun _ _ => ?_) | refine E.mk (fun _ _ => ?_) | refine E.bx (fun _ => ?_) | refine E.al (fun _ => ?_) | refine E.sb ?_ | refine E.dq ?_ | refine E.ct ?_ | refine E.cf ?_ | refine E.cs (fun hh => ?_) (fun hh => ?_) | refine E.at_block_other rfl ?_)
  · exact ri (by rw [if_pos (by omega)])
  refine lq (fun i : Nat => i ≤ xs.length ∧ 0 ≤ k - xs.length - psum ps i) (fun i => [(1, .pl (.int .i64 (k - xs.length - psum ps i))), (5, .pl (.int .i64 (i : Int)))]) (fun _ => []) (fun i => xs.length - i) 0 ⟨Nat.zero_le _, by simp [psum]; omega⟩ (fun i hi => ?_) (hF := fs (FSub.int rfl (by simp [psum]) (FSub.int rfl (by omega) FSub.nil)))
  obtain ⟨hi1, hi2⟩ := hi
  rcases Nat.lt_or_ge i xs.length with hlt | hge
  · obtain ⟨x, hx⟩ := get_lt hlt
    obtain ⟨p, hp⟩ := get_lt (xs := ps) (k := i) (by omega)
    have hin0 := hin i x p hx hp
    have hps := psum_step hp
    have hpl := psum_le ps (i + 1)
    have hkk : 0 ≤ k - xs.length - psum ps i ∧ k - xs.length - psum ps i ≤ 1048576 := by omega
    have hc : ∀ w', KOk w [] w' → Calls Try.prog 115 #[.agg #[.int .i64 x.z, .slice x.s.a x.s.n x.s.c], .int .i64 (k - xs.length - psum ps i)] w' (Ret (fun _ : Unit => .int .i64 (if k - xs.length - psum ps i - p.l.length < 0 then -1 else k - xs.length - psum ps i - p.l.length)) (fun _ => []) w') := fun w' hw => c_szPool w' (hin0.now hw) hkk
    by_cases hd : (p.l.length : Int) ≤ k - xs.length - psum ps i
    · rw [if_neg (by omega)] at hc
      repeat' (first | refine E.st ?_ | refine E.cl (h := fun _ w hw => hc w hw) (k := ?_) | refine E.q ?_ | refine E.qs ?_ | refine E.q2 ?_ | refine E.tr ?_ | refine E.ap (fun _ _ => ?_) | refine E.b1 (fun _ _ => ?_) | refine E.b0 (fun _ _ => ?_) | refine E.bsn (fun _ _ => ?_) | refine E.mk (fun _ _ => ?_) | refine E.bx (fun _ => ?_) | refine E.al (fun _ => ?_) | refine E.sb ?_ | refine E.dq ?_ | refine E.ct ?_ | refine E.cf ?_ | refine E.cs (fun hh => ?_) (fun hh => ?_) | refine E.at_block_other rfl ?_)
      exact rd (i + 1) ⟨by omega, by omega⟩
    · rw [if_pos (by omega)] at hc
      repeat' (first | refine E.st ?_ | refine E.cl (h := fun _ w hw => hc w hw) (k := ?_) | refine E.q ?_ | refine E.qs ?_ | refine E.q2 ?_ | refine E.tr ?_ | refine E.ap (fun _ _ => ?_) | refine E.b1 (fun _ _ => ?_) | refine E.b0 (fun _ _ => ?_) | refine E.bsn (fun _ _ => ?_) | refine E.mk (fun _ _ => ?_) | refine E.bx (fun _ => ?_) | refine E.al (fun _ => ?_) | refine E.sb ?_ | refine E.dq ?_ | refine E.ct ?_ | refine E.cf ?_ | refine E.cs (fun hh => ?_) (fun hh => ?_) | refine E.at_block_other rfl ?_)
      exact ri (by rw [if_pos (by omega)])
  · repeat' (first | refine E.st ?_ | refine E.q ?_ | refine E.qs ?_ | refine E.q2 ?_ | refine E.tr ?_ | refine E.ap (fun _ _ => ?_) | refine E.b1 (fun _ _ => ?_) | refine E.b0 (fun _ _ => ?_) | refine E.bsn (fun _ _ => ?_) | refine E.mk (fun _ _ => ?_) | refine E.bx (fun _ => ?_) | refine E.al (fun _ => ?_) | refine E.sb ?_ | refine E.dq ?_ | refine E.ct ?_ | refine E.cf ?_ | refine E.cs (fun hh => ?_) (fun hh => ?_) | refine E.at_block_other rfl ?_)
    have hie : i = ps.length := by omega
    refine ri ?_
    rw [if_neg (by rw [ht, ← hie]; omega), ht, ← hie]
    omega
theorem c_toPool {z : Int} {A : Option Addr} {n m : Nat} {xs : List Pg} (w : World) (hr : RdF w (.slice A n m) xs := by exact rdA) (hn : xs.length ≤ 1048576 := by omega) : Calls Try.prog 116 #[.agg #[.int .i64 z, .slice A n m]] w (Ret (fun s : Sv => .agg #[.int .i64 z, .slice s.a s.n s.c]) (fun s => [ownF 145 (.slice s.a s.n s.c) xs]) w) := by
  refine enter (args := _) Try.func116 rfl Try.ntmps116 (by simp) ?_
  repeat' (first | refine E.st ?_ | refine E.cm (h := fun w _ => c_toPageS w) (k := fun s => ?_) | refine E.q ?_ | refine E.qs ?_ | refine E.q2 ?_ | refine E.tr ?_ | refine E.ap (fun _ _ => ?_) | refine E.b1 (fun _ _ => ?_) | refine E.b0 (fun _ _ => ?_) | refine E.bsn (fun _ _ => ?_) | refine E.mk (fun _ _ => ?_) | refine E.bx (fun _ => ?_) | refine E.al (fun _ => ?_) | refine E.sb ?_ | refine E.dq ?_ | refine E.ct ?_ | refine E.cf ?_ | refine E.cs (fun hh => ?_) (fun hh => ?_) | refine E.at_block_other rfl ?_)
  exact r1 (by assumption)
theorem ks_snoc {k : Ck} {L K : List Ck} : KSub (k :: (L ++ K)) ((L ++ [k]) ++ K) := KSub.ofPerm _ _ (by rw [List.append_assoc]; exact List.perm_middle.symm)
theorem ks_nil {L : List Ck} : KSub (L ++ []) L := by rw [List.append_nil]; exact KSub.refl _
abbrev PlZ : PlR := ⟨0, ⟨none, 0, 0⟩⟩
theorem c_toPoolS {v : Value} {ps : List Pl} (w : World) (hn : ps.length ≤ 1048576) (hna : ∀ p ∈ ps, p.l.length ≤ 1048576) (hr : RdN w v ps := by exact rdN) :
    Calls Try.prog 54 #[v] w (Ret (fun z : Value × { xs : List PlR // Match xs ps } => z.1) (fun z => ownF 98 z.1 z.2.1 :: inn 145 z.2.1 ps) w) := by
  obtain ⟨xs, hx0, ⟨hl, hM0⟩, hin⟩ := hr
  have m1 := hx0.le
  simp only [maxLen] at m1
  refine enter (args := _) Try.func54 rfl Try.ntmps54 (by simp) ?_
  repeat' (first | refine E.st ?_ | refine E.q ?_ | refine E.qs ?_ | refine E.q2 ?_ | refine E.tr ?_ | refine E.ap (fun _ _ => ?_) | refine E.b1 (fun _ _ => ?_) | refine E.b0 (fun _ _ => ?_) | refine E.bsn (fun _ _ => ?_) | refine E.mk (fun _ _ => ?_) | refine E.bx (fun _ => ?_) | refine E.al (fun _ => ?_) | refine E.sb ?_ | refine E.dq ?_ | refine E.ct ?_ | refine E.cf ?_ | refine E.cs (fun hh => ?_) (fun hh => ?_) | refine E.at_block_other rfl ?_)
  rename_i v1 h1
  refine lq (fun p : Nat × List PlR => p.1 ≤ ps.length ∧ Match p.2 (ps.take p.1)) (fun p => [(4, .pl (.int .i64 (p.1 : Int)))]) (fun p => ownF 98 v1 (p.2 ++ List.replicate (ps.length - p.1) PlZ) :: inn 145 p.2 (ps.take p.1)) (fun p => ps.length - p.1) (0, []) ⟨Nat.zero_le _, Match.nil⟩ (fun p hp => ?_) (hK := Spl.ownF pk (by simp [hl]) (Spl.nil _))
  obtain ⟨k, rows⟩ := p
  obtain ⟨hk, hM⟩ := hp
  simp only at hk hM
  dsimp only
  have hrl : rows.length = k := by rw [hM.1, List.length_take]; omega
  rcases Nat.lt_or_ge k ps.length with hlt | hge
  · obtain ⟨x, hx⟩ := get_lt (xs := xs) (k := k) (by omega)
    obtain ⟨p, hy⟩ := get_lt hlt
    have hin0 := hin k x p hx hy
    have heq : x.z = p.z := hM0 k x p hx hy
    have hta := hna p (List.mem_of_getElem? hy)
    have hRl : (rows ++ List.replicate (ps.length - k) PlZ).length = ps.length := by simp; omega
    have hg : (rows ++ List.replicate (ps.length - k) PlZ)[k]? = some PlZ := by
      rw [List.getElem?_append_right (by omega), hrl, Nat.sub_self, List.getElem?_replicate, if_pos (by omega)]
    have hc : ∀ w', KOk w (ownF 98 v1 (rows ++ List.replicate (ps.length - k) PlZ) :: (inn 145 rows (ps.take k) ++ [])) w' → Calls Try.prog 116 #[.agg #[.int .i64 x.z, .slice x.s.a x.s.n x.s.c]] w' (Ret (fun s : Sv => .agg #[.int .i64 x.z, .slice s.a s.n s.c]) (fun s => [ownF 145 (.slice s.a s.n s.c) p.l]) w') := fun w' hw => c_toPool w' (hin0.now hw) hta
    repeat' (first | refine E.st ?_ | refine E.cm (h := fun w hw => hc w hw) (k := fun s => ?_) | refine E.q ?_ | refine E.qs ?_ | refine E.q2 ?_ | refine E.tr ?_ | refine E.ap (fun _ _ => ?_) | refine E.b1 (fun _ _ => ?_) | refine E.b0 (fun _ _ => ?_) | refine E.bsn (fun _ _ => ?_) | refine E.mk (fun _ _ => ?_) | refine E.bx (fun _ => ?_) | refine E.al (fun _ => ?_) | refine E.sb ?_ | refine E.dq ?_ | refine E.ct ?_ | refine E.cf ?_ | refine E.cs (fun hh => ?_) (fun hh => ?_) | refine E.at_block_other rfl ?_)
    have hset : (rows ++ List.replicate (ps.length - k) PlZ).set k ⟨x.z, ⟨s.a, s.n, s.c⟩⟩ = (rows ++ [⟨p.z, s⟩]) ++ List.replicate (ps.length - (k + 1)) PlZ := by
      rw [List.set_append_right _ _ (by omega), hrl, Nat.sub_self, show ps.length - k = (ps.length - (k + 1)) + 1 from by omega, List.replicate_succ, List.set_cons_zero, heq, List.append_assoc]
      rfl
    refine rd (k + 1, rows ++ [⟨p.z, s⟩]) ⟨by dsimp only; omega, hM.snoc hy rfl⟩ (hK := KSub.ownF (Pick.here _ _) hset ?_)
    dsimp only
    rw [inn_snoc hM hy]
    exact ks_snoc
  · repeat' (first | refine E.st ?_ | refine E.q ?_ | refine E.qs ?_ | refine E.q2 ?_ | refine E.tr ?_ | refine E.ap (fun _ _ => ?_) | refine E.b1 (fun _ _ => ?_) | refine E.b0 (fun _ _ => ?_) | refine E.bsn (fun _ _ => ?_) | refine E.mk (fun _ _ => ?_) | refine E.bx (fun _ => ?_) | refine E.al (fun _ => ?_) | refine E.sb ?_ | refine E.dq ?_ | refine E.ct ?_ | refine E.cf ?_ | refine E.cs (fun hh => ?_) (fun hh => ?_) | refine E.at_block_other rfl ?_)
    have hke : k = ps.length := by omega
    subst hke
    rw [List.take_length] at hM ⊢
    exact r1 (v1, ⟨rows, hM⟩) (hK := KSub.ownF (Pick.here _ _) (by simp) ks_nil)
theorem c_eqPool {z z' : Int} {A A' : Option Addr} {n m n' m' : Nat} {xs ys : List Pg} (w : World) (hr : RdF w (.slice A n m) xs := by exact rdA) (hq : RdF w (.slice A' n' m') ys := by exact rdA) :
    Calls Try.prog 120 #[.agg #[.int .i64 z, .slice A n m], .agg #[.int .i64 z', .slice A' n' m']] w (Ret (fun _ : Unit => .bool (decide ((⟨z, xs⟩ : Pl) = ⟨z', ys⟩))) (fun _ => []) w) := by
  refine enter (args := _) Try.func120 rfl Try.ntmps120 (by simp) ?_
  repeat' (first | refine E.st ?_ | refine E.cl (h := fun _ w _ => c_eqPageS w) (k := ?_)  | refine E.q ?_ | refine E.qs ?_ | refine E.q2 ?_ | refine E.tr ?_ | refine E.ap (fun _ _ => ?_) | refine E.b1 (fun _ _ => ?_) | refine E.b0 (fun _ _ => ?_) | refine E.bsn (fun _ _ => ?_) | refine E.mk (fun _ _ => ?_) | refine E.bx (fun _ => ?_) | refine E.al (fun _ => ?_) | refine E.sb ?_ | refine E.dq ?_ | refine E.ct ?_ | refine E.cf ?_ | refine E.cs (fun hh => ?_) (fun hh => ?_) | refine E.at_block_other rfl ?_)
  all_goals (refine rb ?_; simp_all)
theorem c_eqPoolS {v u : Value} {ps qs : List Pl} (w : World) (hr : RdN w v ps := by exact rdN) (hq : RdN w u qs := by exact rdN) : Calls Try.prog 61 #[v, u] w (Ret (fun _ : Unit => .bool (decide (ps = qs))) (fun _ => []) w) := by
  obtain ⟨xs, hx0, ⟨hl, hM⟩, hin⟩ := hr
  obtain ⟨ys, hy0, ⟨hl', hM'⟩, hin'⟩ := hq
  have m1 := hx0.le
  have m2 := hy0.le
  simp only [maxLen] at m1 m2
  refine enter (args := _) Try.func61 rfl Try.ntmps61 (by simp) ?_
  repeat' (first | refine E.st ?_ | refine E.q ?_ | refine E.qs ?_ | refine E.q2 ?_ | refine E.tr ?_ | refine E.ap (fun _ _ => ?_) | refine E.b1 (fun _ _ => ?_) | refine E.b0 (fun _ _ => ?_) | refine E.bsn (fun _ _ => ?_) | refine E.mk (fun _ _ => ?_) | refine E.bx (fun _ => ?_) | refine E.al (fun _ => ?_) | refine E.sb ?_ | refine E.dq ?_ | refine E.ct ?_ | refine E.cf ?_ | refine E.cs (fun hh => ?_) (fun hh => ?_) | refine E.at_block_other rfl ?_)
  · exact rb (eq_len (by omega))
  refine lq (fun k : Nat => k ≤ xs.length ∧ ps.take k = qs.take k) (fun k => [(5, .pl (.int .i64 (k : Int)))]) (fun k => []) (fun k => xs.length - k) 0 ⟨Nat.zero_le _, rfl⟩ (fun k hk0 => ?_)
  obtain ⟨hk1, hk2⟩ := hk0
  rcases Nat.lt_or_ge k xs.length with hlt | hge
  · obtain ⟨x, hx⟩ := get_lt hlt
    obtain ⟨y, hy⟩ := get_lt (xs := ys) (k := k) (by omega)
    obtain ⟨p, hp⟩ := get_lt (xs := ps) (k := k) (by omega)
    obtain ⟨q, hq⟩ := get_lt (xs := qs) (k := k) (by omega)
    have hlt' : k < ys.length := by omega
    have i1 := hin k x p hx hp
    have i2 := hin' k y q hy hq
    have e1 : x.z = p.z := hM k x p hx hp
    have e2 : y.z = q.z := hM' k y q hy hq
    have hc : ∀ w' K, KOk w K w' → Calls Try.prog 120 #[.agg #[.int .i64 x.z, .slice x.s.a x.s.n x.s.c], .agg #[.int .i64 y.z, .slice y.s.a y.s.n y.s.c]] w' (Ret (fun _ : Unit => .bool (decide (p = q))) (fun _ => []) w') := fun w' K hw => by
      have := c_eqPool (z := x.z) (z' := y.z) w' (i1.now hw) (i2.now hw)
      rw [e1, e2] at this ⊢
      exact this
    repeat' (first | refine E.st ?_ | refine E.cl (h := fun _ w hw => hc w _ hw) (k := ?_) | refine E.q ?_ | refine E.qs ?_ | refine E.q2 ?_ | refine E.tr ?_ | refine E.ap (fun _ _ => ?_) | refine E.b1 (fun _ _ => ?_) | refine E.b0 (fun _ _ => ?_) | refine E.bsn (fun _ _ => ?_) | refine E.mk (fun _ _ => ?_) | refine E.bx (fun _ => ?_) | refine E.al (fun _ => ?_) | refine E.sb ?_ | refine E.dq ?_ | refine E.ct ?_ | refine E.cf ?_ | refine E.cs (fun hh => ?_) (fun hh => ?_) | refine E.at_block_other rfl ?_)
    · exact rb (eq_no hp hq hh)
    · exact rd (k + 1) ⟨by omega, eq_st hk2 hp hq hh⟩
  · repeat' (first | refine E.st ?_ | refine E.q ?_ | refine E.qs ?_ | refine E.q2 ?_ | refine E.tr ?_ | refine E.ap (fun _ _ => ?_) | refine E.b1 (fun _ _ => ?_) | refine E.b0 (fun _ _ => ?_) | refine E.bsn (fun _ _ => ?_) | refine E.mk (fun _ _ => ?_) | refine E.bx (fun _ => ?_) | refine E.al (fun _ => ?_) | refine E.sb ?_ | refine E.dq ?_ | refine E.ct ?_ | refine E.cf ?_ | refine E.cs (fun hh => ?_) (fun hh => ?_) | refine E.at_block_other rfl ?_)
    exact rb (eq_all hk2 (by omega) (by omega))
end E
end Go.Proofs.Ytmopokamcbcggaa
