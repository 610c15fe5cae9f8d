/- The program's walks: places, steps, peeling. -/
import Derived.Test.YtjdagbicjhmeeaaKx
import Derived.Test.YtjdagbicjhmeeaaCd
namespace Go.Proofs.Ytjdagbicjhmeeaa
namespace E
open Go Go.RowKit
set_option linter.unusedSimpArgs false
set_option linter.unusedVariables false
set_option maxHeartbeats 1000000
set_option maxRecDepth 10000
attribute [local irreducible] HC HL HQ HX HO At Y YV Opd Opds KnX Sl Ld Src GV RV Calls Code.wp eptr adr RdF ownF OneX HG LdC
instance : Flat Sv := ⟨1, fun x => [.slice x.a x.n x.c], fun _ => rfl, fun _ u h => by simp only [List.mem_cons, List.mem_nil_iff, or_false] at h; subst h; rfl⟩
instance (A : Option Addr) (n c : Nat) : MkI Sv [.slice A n c] ⟨A, n, c⟩ := ⟨rfl⟩
instance : ElT Try.prog 54 Sv := ⟨trivial⟩
theorem c_i_NodeOk_t {l n : Int} (w : World) (h : nok ⟨l, n⟩ = true) : Calls Try.prog 38 #[.agg #[.int .i64 l, .int .i64 n]] w (Ret (fun _ : Unit => .bool true) (fun _ => []) w) := by
  have := c_i_NodeOk (l := l) (n := n) w
  rwa [h] at this
theorem c_i_NodeOk_f {l n : Int} (w : World) (h : nok ⟨l, n⟩ = false) : Calls Try.prog 38 #[.agg #[.int .i64 l, .int .i64 n]] w (Ret (fun _ : Unit => .bool false) (fun _ => []) w) := by
  have := c_i_NodeOk (l := l) (n := n) w
  rwa [h] at this
/-- Places as the program holds them. -/
def zL (r : List Nat) : List Int := r.map (fun j : Nat => (j : Int))
theorem zL_len {r : List Nat} : (zL r).length = r.length := by simp [zL]
theorem zL_get {r : List Nat} {k j : Nat} (h : r[k]? = some j) : (zL r)[k]? = some (j : Int) := by simp [zL, h]
theorem zL_snoc {r : List Nat} {j : Nat} : zL (r ++ [j]) = zL r ++ [(j : Int)] := by simp [zL]
instance : Nst (List Nat) Sv Int := ⟨fun s => s, zL, fun _ _ => True⟩
theorem bs_place {ns : List Nd} {t : Nd} {m : Nat} (ho : Ord ns) (h : t ∈ ns) (h1 : ∀ (i : Nat) x, ns[i]? = some x → i < m → code x < code t) (h2 : ∀ (i : Nat) x, ns[i]? = some x → m ≤ i → code t ≤ code x) : m = plc ns t := by
  have hp := plc_ok h
  rcases Nat.lt_trichotomy m (plc ns t) with hlt | he | hgt
  · obtain ⟨y, hy⟩ := get_lt (xs := ns) (k := m) (by omega)
    have a := h2 m y hy (Nat.le_refl _)
    obtain ⟨q1, e1⟩ := List.getElem?_eq_some_iff.1 hy
    obtain ⟨q2, e2⟩ := List.getElem?_eq_some_iff.1 hp.2.1
    have b := (List.pairwise_iff_getElem.1 ho.code) m (plc ns t) q1 q2 hlt
    rw [e1, e2] at b
    omega
  · exact he
  · have := h1 _ _ hp.2.1 hgt
    omega
theorem c_bsN_yes {v : Value} {ns : List Nd} {l n : Int} (w : World) (ho : NOk ns) (ht : (⟨l, n⟩ : Nd) ∈ ns) (hr : RdF w v ns := by exact rdA) :
    Calls Try.prog 107 #[v, .agg #[.int .i64 l, .int .i64 n], .func (.func 72) #[] #[]] w (Ret (fun _ : Unit => .tuple #[.int .i64 ((plc ns ⟨l, n⟩ : Nat) : Int), .bool true]) (fun _ => []) w) := by
  have hnl := ho.len
  have hn := ho.1 _ ht
  obtain ⟨m, m1, m2, m3⟩ := parts code ns (code ⟨l, n⟩) ho.ord.code
  have hm := bs_place ho.ord ht m2 m3
  have hc := c_bsN (v := v) (ns := ns) (l := l) (n := n) m w m1 m2 m3 (by omega) hr
  rw [hm, (plc_ok ht).2.1] at hc
  dsimp only at hc
  rw [decide_eq_true rfl] at hc
  exact hc
theorem c_bsN_no {v : Value} {ns : List Nd} {l n : Int} (w : World) (ho : NOk ns) (hn : nok ⟨l, n⟩ = true) (ht : (⟨l, n⟩ : Nd) ∉ ns) : ∃ m : Nat, ∀ (w' : World), RdF w' v ns →
    Calls Try.prog 107 #[v, .agg #[.int .i64 l, .int .i64 n], .func (.func 72) #[] #[]] w' (Ret (fun _ : Unit => .tuple #[.int .i64 (m : Int), .bool false]) (fun _ => []) w') := by
  have hnl := ho.len
  obtain ⟨m, m1, m2, m3⟩ := parts code ns (code ⟨l, n⟩) ho.ord.code
  refine ⟨m, fun w' hr => ?_⟩
  have hat := at_m ho.ord hn m2 m3
  have hc := c_bsN (v := v) (ns := ns) (l := l) (n := n) m w' m1 m2 m3 (by omega) hr
  cases hx : ns[m]? with
  | none =>
    rw [hx] at hc
    exact hc
  | some y =>
    rw [hx] at hc hat
    dsimp only at hc hat
    rw [hat, decide_eq_false ht] at hc
    exact hc
theorem c_nodePlace {v u : Value} {ns : List Nd} {l n : Int} (w : World) (ho : NOk ns) (hr : RdF w v ns := by exact rdA) (hu : u.oneCell' = true := by assumption) :
    Calls Try.prog 85 #[.agg #[v, u], .agg #[.int .i64 l, .int .i64 n]] w (Ret (fun _ : Unit => .int .i64 (pos ns ⟨l, n⟩)) (fun _ => []) w) := by
  have o1 := hr.one
  cases ht : nok ⟨l, n⟩ with
  | true =>
    by_cases hm : (⟨l, n⟩ : Nd) ∈ ns
    · rw [(plc_ok hm).1]
      refine enter (args := _) Try.func85 rfl Try.ntmps85 (by simp) ?_
      repeat' (first | refine E.st ?_ | refine E.cl (h := fun _ w _ => c_i_NodeOk_t w ht) (k := ?_) | refine E.cl (h := fun _ w _ => c_bsN_yes w ho hm) (k := ?_)  | refine E.q3 ?_ | refine E.q ?_ | refine E.qs ?_ | refine E.q2 ?_ | refine E.q4 ?_ | refine E.tr ?_ | refine E.ap (fun _ _ => ?_) | refine E.b1 (fun _ _ => ?_) | refine E.b0 (fun _ _ => ?_) | refine E.bsn (fun _ _ => ?_) | refine E.mk (fun _ _ => ?_) | refine E.bxO (fun _ => ?_) | refine E.al (fun _ => ?_) | refine E.sbO ?_ | refine E.dq ?_ | refine E.ct ?_ | refine E.cf ?_ | refine E.cs (fun hh => ?_) (fun hh => ?_) | refine E.at_block_other rfl ?_)
      exact ri
    · rw [pos_none hm]
      obtain ⟨m, hc⟩ := c_bsN_no (v := v) w ho ht hm
      refine enter (args := _) Try.func85 rfl Try.ntmps85 (by simp) ?_
      repeat' (first | refine E.st ?_ | refine E.cl (h := fun _ w _ => c_i_NodeOk_t w ht) (k := ?_) | refine E.cl (h := fun _ w hw => hc w (hr.now hw)) (k := ?_) | refine E.q3 ?_ | refine E.q ?_ | refine E.qs ?_ | refine E.q2 ?_ | refine E.q4 ?_ | refine E.tr ?_ | refine E.ap (fun _ _ => ?_) | refine E.b1 (fun _ _ => ?_) | refine E.b0 (fun _ _ => ?_) | refine E.bsn (fun _ _ => ?_) | refine E.mk (fun _ _ => ?_) | refine E.bxO (fun _ => ?_) | refine E.al (fun _ => ?_) | refine E.sbO ?_ | refine E.dq ?_ | refine E.ct ?_ | refine E.cf ?_ | refine E.cs (fun hh => ?_) (fun hh => ?_) | refine E.at_block_other rfl ?_)
      exact ri
  | false =>
    have hp : pos ns ⟨l, n⟩ = -1 := pos_none (fun h => by rw [ho.1 _ h] at ht; cases ht)
    rw [hp]
    refine enter (args := _) Try.func85 rfl Try.ntmps85 (by simp) ?_
    repeat' (first | refine E.st ?_ | refine E.cl (h := fun _ w _ => c_i_NodeOk_f w ht) (k := ?_)  | refine E.q3 ?_ | refine E.q ?_ | refine E.qs ?_ | refine E.q2 ?_ | refine E.q4 ?_ | refine E.tr ?_ | refine E.ap (fun _ _ => ?_) | refine E.b1 (fun _ _ => ?_) | refine E.b0 (fun _ _ => ?_) | refine E.bsn (fun _ _ => ?_) | refine E.mk (fun _ _ => ?_) | refine E.bxO (fun _ => ?_) | refine E.al (fun _ => ?_) | refine E.sbO ?_ | refine E.dq ?_ | refine E.ct ?_ | refine E.cf ?_ | refine E.cs (fun hh => ?_) (fun hh => ?_) | refine E.at_block_other rfl ?_)
    exact ri
theorem c_nodePlace_m {v u : Value} {ns : List Nd} {l n : Int} (w : World) (ho : NOk ns) (hm : (⟨l, n⟩ : Nd) ∈ ns) (hr : RdF w v ns := by exact rdA) (hu : u.oneCell' = true := by assumption) :
    Calls Try.prog 85 #[.agg #[v, u], .agg #[.int .i64 l, .int .i64 n]] w (Ret (fun _ : Unit => .int .i64 ((plc ns ⟨l, n⟩ : Nat) : Int)) (fun _ => []) w) := by
  have := c_nodePlace (u := u) w ho hr hu (l := l) (n := n)
  rwa [(plc_ok hm).1] at this
theorem row_walk2 {n i0 i k : Nat} {adj : List (List Nat)} {s : Bf} (ha : AOk n adj) (h : BI n i0 s) (hk : s.mt[k]? = some i) : ∃ S : Nat → Bf, S 0 = s ∧ (∀ j o, (adj.getD i [])[j]? = some o → S (j + 1) = bfIn (s.st.getD i 0) (S j) o) ∧ (∀ j, BI n i0 (S j) ∧ s.mt.length ≤ (S j).mt.length ∧ (S j).st.getD i 0 = s.st.getD i 0) ∧ ∀ j, (adj.getD i []).length ≤ j → S j = bfRow adj s i := by
  have hi := h.at hk
  have hrow : ∀ o ∈ adj.getD i [], o < n := by
    intro o ho
    have hlt : i < adj.length := by rw [ha.1]; exact hi.1
    exact ((ha.2 i _ (getD_at (d := []) hlt)).1 o ho).1
  refine ⟨fun j => ((adj.getD i []).take j).foldl (bfIn (s.st.getD i 0)) s, rfl, fun j o ho => foldl_take_succ _ _ ho, fun j => ?_, fun j hj => ?_⟩
  · have := BI.fold ((adj.getD i []).take j) h hi.2 (fun o ho => hrow o (List.mem_of_mem_take ho))
    exact ⟨this.1, this.2.1, this.2.2 i hi.1 hi.2.1⟩
  · dsimp only
    rw [List.take_of_length_le hj]
    rfl
/-- What the program's search hands back. -/
theorem c_stepsFrom {v : Value} {adj : List (List Nat)} {n i : Nat} (w : World) (hA : AOk n adj) (hn : n ≤ 1000) (hi : i < n) (hr : RdN w v adj := by exact rdN) :
    Calls Try.prog 86 #[v, .int .i64 (i : Int)] w (Ret (fun z : { p : Value × Value // p.1.oneCell' = true ∧ p.2.oneCell' = true } => .tuple #[z.1.1, z.1.2]) (fun z => [ownF 3 z.1.1 (bfs adj n i).st, ownF 3 z.1.2 (zL (bfs adj n i).mt)]) w) := by
  obtain ⟨xs, hx0, ⟨hl, hM⟩, hin⟩ := hr
  have hal := hA.1
  have o1 := hx0.one
  have hB0 := BI.zero hi
  have hll : xs.length = n := by omega
  refine enter (args := _) Try.func86 rfl Try.ntmps86 (by simp) ?_
  repeat' (first | refine E.st ?_ | refine E.mk (α := Int) (z' := 0) (fun v6 h6 => ?_) | refine E.q3 ?_ | refine E.q ?_ | refine E.qs ?_ | refine E.q2 ?_ | refine E.q4 ?_ | refine E.tr ?_ | refine E.ap (fun _ _ => ?_) | refine E.b1 (fun _ _ => ?_) | refine E.b0 (fun _ _ => ?_) | refine E.bsn (fun _ _ => ?_) | refine E.mk (fun _ _ => ?_) | refine E.bxO (fun _ => ?_) | refine E.al (fun _ => ?_) | refine E.sbO ?_ | refine E.dq ?_ | refine E.ct ?_ | refine E.cf ?_ | refine E.cs (fun hh => ?_) (fun hh => ?_) | refine E.at_block_other rfl ?_)
  have hl1 : (List.replicate xs.length (0 : Int)).length = xs.length := List.length_replicate
  refine lq (fun j : Nat => j ≤ xs.length) (fun j => [(18, .pl (.int .i64 (j : Int)))]) (fun j => [ownF 3 v6 (List.replicate j (-1 : Int) ++ List.replicate (xs.length - j) 0)]) (fun j => xs.length - j) 0 (Nat.zero_le _) (fun j hj => ?_) (hK := Spl.ownF pk (by simp) (Spl.nil _))
  have hl2 : (List.replicate j (-1 : Int) ++ List.replicate (xs.length - j) 0).length = xs.length := by simp; omega
  rcases Nat.lt_or_ge j xs.length with hlt | hge
  · have hg : (List.replicate j (-1 : Int) ++ List.replicate (xs.length - j) 0)[j]? = some 0 := by
      rw [List.getElem?_append_right (by simp), List.getElem?_replicate]
      simp; omega
    have hset : (List.replicate j (-1 : Int) ++ List.replicate (xs.length - j) 0).set j (-1) = List.replicate (j + 1) (-1 : Int) ++ List.replicate (xs.length - (j + 1)) 0 := by
      rw [List.set_append_right _ _ (by simp), List.length_replicate, Nat.sub_self, show xs.length - j = (xs.length - (j + 1)) + 1 from by omega, List.replicate_succ, List.set_cons_zero, List.replicate_succ', List.append_assoc]
      rfl
    repeat' (first | refine E.st ?_ | refine E.q3 ?_ | refine E.q ?_ | refine E.qs ?_ | refine E.q2 ?_ | refine E.q4 ?_ | refine E.tr ?_ | refine E.ap (fun _ _ => ?_) | refine E.b1 (fun _ _ => ?_) | refine E.b0 (fun _ _ => ?_) | refine E.bsn (fun _ _ => ?_) | refine E.mk (fun _ _ => ?_) | refine E.bxO (fun _ => ?_) | refine E.al (fun _ => ?_) | refine E.sbO ?_ | refine E.dq ?_ | refine E.ct ?_ | refine E.cf ?_ | refine E.cs (fun hh => ?_) (fun hh => ?_) | refine E.at_block_other rfl ?_)
    exact rd (j + 1) hlt (hK := KSub.ownF pk hset ks)
  have hje : j = xs.length := by omega
  subst hje
  simp only [Nat.sub_self, List.replicate_zero, List.append_nil]
  have hg0 : (List.replicate xs.length (-1 : Int))[i]? = some (-1) := by
    rw [List.getElem?_replicate, if_pos (by omega)]
  have hl3 : (List.replicate xs.length (-1 : Int)).length = xs.length := List.length_replicate
  repeat' (first | refine E.st ?_ | refine E.b1 (α := Int) (fun v8 h8 => ?_) | refine E.q3 ?_ | refine E.q ?_ | refine E.qs ?_ | refine E.q2 ?_ | refine E.q4 ?_ | refine E.tr ?_ | refine E.ap (fun _ _ => ?_) | refine E.b1 (fun _ _ => ?_) | refine E.b0 (fun _ _ => ?_) | refine E.bsn (fun _ _ => ?_) | refine E.mk (fun _ _ => ?_) | refine E.bxO (fun _ => ?_) | refine E.al (fun _ => ?_) | refine E.sbO ?_ | refine E.dq ?_ | refine E.ct ?_ | refine E.cf ?_ | refine E.cs (fun hh => ?_) (fun hh => ?_) | refine E.at_block_other rfl ?_)
  have hst0 : (List.replicate xs.length (-1 : Int)).set i 0 = (bf0 n i).st := by rw [hll]; rfl
  refine lq (fun z : (Nat × Bf) × V1 => (BI n i z.1.2 ∧ z.1.1 ≤ z.1.2.mt.length) ∧ bfGo adj (n - z.1.1) z.1.1 z.1.2 = bfs adj n i) (fun z => [(9, .pl (.int .i64 (z.1.1 : Int))), (8, .pl z.2.1)]) (fun z => [ownF 3 v6 z.1.2.st, ownF 3 z.2.1 (zL z.1.2.mt)]) (fun z => n - z.1.1) ((0, bf0 n i), ⟨v8, h8⟩) ⟨⟨hB0, Nat.zero_le _⟩, rfl⟩ (fun z hz => ?_) (hK := Spl.ownF pk hst0 (Spl.ownF pk rfl (Spl.nil _)))
  obtain ⟨⟨k, s⟩, ⟨v8, h8⟩⟩ := z
  obtain ⟨⟨hB, hk⟩, hgo⟩ := hz
  dsimp only at hB hk hgo ⊢
  have hml := hB.mlen
  have hl7 : (zL s.mt).length = s.mt.length := zL_len
  have hsl := hB.len
  rcases Nat.lt_or_ge k s.mt.length with hlt | hge2
  · obtain ⟨i', hi'⟩ := get_lt hlt
    have hat := hB.at hi'
    have hm' := zL_get hi'
    obtain ⟨x, hx⟩ := get_lt (xs := xs) (k := i') (by omega)
    have hrw : adj[i']? = some (adj.getD i' []) := getD_at (by omega)
    have hin2 := hin i' x _ hx hrw
    change RdF w (.slice x.a x.n x.c) (zL (adj.getD i' [])) at hin2
    obtain ⟨S, hS0, hSs, hSB, hSe⟩ := row_walk2 hA hB hi'
    have hgo2 : bfGo adj (n - (k + 1)) (k + 1) (bfRow adj s i') = bfs adj n i := by
      rw [← hgo, show n - k = (n - (k + 1)) + 1 from by omega, bfGo_step hi']
    have hd := hat.2
    have hAr := hA.2 i' _ hrw
    generalize s.st.getD i' 0 = d at hSs hd hSB
    generalize adj.getD i' [] = row at *
    have hzl : (zL row).length = row.length := zL_len
    have hrl : row.length < n := row_len hAr.1 hAr.2 hat.1
    repeat' (first | refine E.st ?_ | refine E.q3 ?_ | refine E.q ?_ | refine E.qs ?_ | refine E.q2 ?_ | refine E.q4 ?_ | refine E.tr ?_ | refine E.ap (fun _ _ => ?_) | refine E.b1 (fun _ _ => ?_) | refine E.b0 (fun _ _ => ?_) | refine E.bsn (fun _ _ => ?_) | refine E.mk (fun _ _ => ?_) | refine E.bxO (fun _ => ?_) | refine E.al (fun _ => ?_) | refine E.sbO ?_ | refine E.dq ?_ | refine E.ct ?_ | refine E.cf ?_ | refine E.cs (fun hh => ?_) (fun hh => ?_) | refine E.at_block_other rfl ?_)
    refine lq (fun z : Nat × V1 => z.1 ≤ row.length) (fun z => [(45, .pl (.int .i64 (z.1 : Int))), (8, .pl z.2.1)]) (fun z => [ownF 3 v6 (S z.1).st, ownF 3 z.2.1 (zL (S z.1).mt)]) (fun z => row.length - z.1) (0, ⟨v8, h8⟩) (Nat.zero_le _) (fun z hz => ?_) (hK := Spl.ownF pk (by rw [hS0]) (Spl.ownF pk (by rw [hS0]) (Spl.nil _)))
    obtain ⟨j, ⟨u7, g7⟩⟩ := z
    dsimp only at hz g7 ⊢
    obtain ⟨hBj, hlj, hdj⟩ := hSB j
    have hmj := hBj.mlen
    have hsj := hBj.len
    have hl8 : (zL (S j).mt).length = (S j).mt.length := zL_len
    have hil : i' < (S j).st.length := by omega
    have hid : (S j).st[i']? = some d := by rw [← hdj]; exact getD_at hil
    rcases Nat.lt_or_ge j row.length with hlt3 | hge3
    · obtain ⟨o, hy⟩ := get_lt hlt3
      have hyz := zL_get hy
      have hol := (hAr.1 o (List.mem_of_getElem? hy)).1
      have hyl : o < (S j).st.length := by omega
      have hys : (S j).st[o]? = some ((S j).st.getD o 0) := getD_at hyl
      have hstep := hSs j o hy
      unfold bfIn at hstep
      have hsn := zL_snoc (r := (S j).mt) (j := o)
      generalize (S j).st.getD o 0 = c at hys hstep
      repeat' (first | refine E.st ?_ | refine E.q3 ?_ | refine E.q ?_ | refine E.qs ?_ | refine E.q2 ?_ | refine E.q4 ?_ | refine E.tr ?_ | refine E.ap (fun _ _ => ?_) | refine E.b1 (fun _ _ => ?_) | refine E.b0 (fun _ _ => ?_) | refine E.bsn (fun _ _ => ?_) | refine E.mk (fun _ _ => ?_) | refine E.bxO (fun _ => ?_) | refine E.al (fun _ => ?_) | refine E.sbO ?_ | refine E.dq ?_ | refine E.ct ?_ | refine E.cf ?_ | refine E.cs (fun hh => ?_) (fun hh => ?_) | refine E.at_block_other rfl ?_)
      · rw [if_pos hh] at hstep
        refine rd (α := Nat × V1) (j + 1, ⟨_, ?_⟩) hlt3 (hK := KSub.ownF pk (by rw [hstep]) (KSub.ownF pk (by rw [hstep]; exact hsn.symm) ks))
        assumption
      · rw [if_neg hh] at hstep
        exact rd (α := Nat × V1) (j + 1, ⟨_, g7⟩) hlt3 (hK := KSub.ownF pk (by rw [hstep]) (KSub.ownF pk (by rw [hstep]) ks))
    · repeat' (first | refine E.st ?_ | refine E.q3 ?_ | refine E.q ?_ | refine E.qs ?_ | refine E.q2 ?_ | refine E.q4 ?_ | refine E.tr ?_ | refine E.ap (fun _ _ => ?_) | refine E.b1 (fun _ _ => ?_) | refine E.b0 (fun _ _ => ?_) | refine E.bsn (fun _ _ => ?_) | refine E.mk (fun _ _ => ?_) | refine E.bxO (fun _ => ?_) | refine E.al (fun _ => ?_) | refine E.sbO ?_ | refine E.dq ?_ | refine E.ct ?_ | refine E.cf ?_ | refine E.cs (fun hh => ?_) (fun hh => ?_) | refine E.at_block_other rfl ?_)
      have hej := hSe j hge3
      refine rd (α := (Nat × Bf) × V1) ((k + 1, bfRow adj s i'), ⟨u7, g7⟩) ⟨⟨by rw [← hej]; exact hBj, by rw [← hej]; dsimp only; omega⟩, hgo2⟩ (hK := KSub.ownF pk (by rw [hej]) (KSub.ownF pk (by rw [hej]) ks))
  · repeat' (first | refine E.st ?_ | refine E.q3 ?_ | refine E.q ?_ | refine E.qs ?_ | refine E.q2 ?_ | refine E.q4 ?_ | refine E.tr ?_ | refine E.ap (fun _ _ => ?_) | refine E.b1 (fun _ _ => ?_) | refine E.b0 (fun _ _ => ?_) | refine E.bsn (fun _ _ => ?_) | refine E.mk (fun _ _ => ?_) | refine E.bxO (fun _ => ?_) | refine E.al (fun _ => ?_) | refine E.sbO ?_ | refine E.dq ?_ | refine E.ct ?_ | refine E.cf ?_ | refine E.cs (fun hh => ?_) (fun hh => ?_) | refine E.at_block_other rfl ?_)
    have hend : s = bfs adj n i := by rw [← hgo, bfGo_end _ _ _ hge2]
    refine rn (α := { p : Value × Value // p.1.oneCell' = true ∧ p.2.oneCell' = true }) ⟨(v6, v8), h6, h8⟩ (hK := KSub.ownF pk ?_ (KSub.ownF pk ?_ (KSub.nil _)))
    · rw [hend]
    · rw [hend]
theorem c_countStays {v b : Value} {row : List Nat} {left : List Bool} (w : World) (hlt : ∀ j ∈ row, j < left.length) (hn : row.length ≤ 1000) (hr : RdF w v (zL row) := by exact rdA) (hb : RdF w b left := by exact rdA) : Calls Try.prog 108 #[v, b] w (Ret (fun _ : Unit => .int .i64 ((stays left row : Nat) : Int)) (fun _ => []) w) := by
  have o1 := hr.one
  have o2 := hb.one
  have hzl : (zL row).length = row.length := zL_len
  refine enter (args := _) Try.func108 rfl Try.ntmps108 (by simp) ?_
  repeat' (first | refine E.st ?_ | refine E.q3 ?_ | refine E.q ?_ | refine E.qs ?_ | refine E.q2 ?_ | refine E.q4 ?_ | refine E.tr ?_ | refine E.ap (fun _ _ => ?_) | refine E.b1 (fun _ _ => ?_) | refine E.b0 (fun _ _ => ?_) | refine E.bsn (fun _ _ => ?_) | refine E.mk (fun _ _ => ?_) | refine E.bxO (fun _ => ?_) | refine E.al (fun _ => ?_) | refine E.sbO ?_ | refine E.dq ?_ | refine E.ct ?_ | refine E.cf ?_ | refine E.cs (fun hh => ?_) (fun hh => ?_) | refine E.at_block_other rfl ?_)
  refine lq (fun j : Nat => j ≤ row.length) (fun j => [(10, .pl (.int .i64 (j : Int))), (5, .pl (.int .i64 ((stays left (row.take j) : Nat) : Int)))]) (fun j => []) (fun j => row.length - j) 0 (Nat.zero_le _) (fun j hj => ?_)
  rcases Nat.lt_or_ge j row.length with hlt2 | hge
  · obtain ⟨o, hy⟩ := get_lt hlt2
    have hyz := zL_get hy
    have hol := hlt o (List.mem_of_getElem? hy)
    have hys : left[o]? = some (left.getD o false) := getD_at hol
    have hst : stays left (row.take (j + 1)) = stays left (row.take j) + if left.getD o false = true then 1 else 0 := by
      simp [stays, List.take_add_one, hy, List.countP_append, List.countP_cons]
    have hsb := stays_le (left := left) (row := row.take j)
    simp only [List.length_take] at hsb
    generalize left.getD o false = c at hys hst
    generalize stays left (row.take j) = m at hst hsb ⊢
    repeat' (first | refine E.st ?_ | refine E.q3 ?_ | refine E.q ?_ | refine E.qs ?_ | refine E.q2 ?_ | refine E.q4 ?_ | refine E.tr ?_ | refine E.ap (fun _ _ => ?_) | refine E.b1 (fun _ _ => ?_) | refine E.b0 (fun _ _ => ?_) | refine E.bsn (fun _ _ => ?_) | refine E.mk (fun _ _ => ?_) | refine E.bxO (fun _ => ?_) | refine E.al (fun _ => ?_) | refine E.sbO ?_ | refine E.dq ?_ | refine E.ct ?_ | refine E.cf ?_ | refine E.cs (fun hh => ?_) (fun hh => ?_) | refine E.at_block_other rfl ?_)
    · rw [if_pos (by assumption)] at hst
      exact rd (j + 1) hlt2 (hF := FSub.int rfl (by omega) (FSub.int rfl (by omega) fs))
    · rw [if_neg (by simp [*])] at hst
      exact rd (j + 1) hlt2 (hF := FSub.int rfl (by omega) (FSub.int rfl (by omega) fs))
  · rw [List.take_of_length_le hge]
    repeat' (first | refine E.st ?_ | refine E.q3 ?_ | refine E.q ?_ | refine E.qs ?_ | refine E.q2 ?_ | refine E.q4 ?_ | refine E.tr ?_ | refine E.ap (fun _ _ => ?_) | refine E.b1 (fun _ _ => ?_) | refine E.b0 (fun _ _ => ?_) | refine E.bsn (fun _ _ => ?_) | refine E.mk (fun _ _ => ?_) | refine E.bxO (fun _ => ?_) | refine E.al (fun _ => ?_) | refine E.sbO ?_ | refine E.dq ?_ | refine E.ct ?_ | refine E.cf ?_ | refine E.cs (fun hh => ?_) (fun hh => ?_) | refine E.at_block_other rfl ?_)
    exact ri
end E
end Go.Proofs.Ytjdagbicjhmeeaa
