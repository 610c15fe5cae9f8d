/- QueryRun on both sides, told alike. -/
import Derived.Test.YtpiiapoafmnhhaaGreatZk
import Derived.Test.YtpiiapoafmnhhaaGreatM16
import Derived.Test.YtpiiapoafmnhhaaGreatM12
import Derived.Test.YtpiiapoafmnhhaaGreatM07
import Derived.Test.YtpiiapoafmnhhaaGreatM10
import Derived.Test.YtpiiapoafmnhhaaGreatUg
import Derived.Test.YtpiiapoafmnhhaaGreatM18
import Derived.Test.YtpiiapoafmnhhaaGreatMh
import Derived.Test.YtpiiapoafmnhhaaGreatJq
import Derived.Test.YtpiiapoafmnhhaaGreatSs
import Derived.Test.YtpiiapoafmnhhaaGreatM08
import Derived.Test.YtpiiapoafmnhhaaGreatM09
import Derived.Test.YtpiiapoafmnhhaaGreatZh
namespace Go.Proofs.YtpiiapoafmnhhaaGreat
namespace E
open Go Go.RowKit
theorem KOk.addn {w0 w : World} {K : List Ck} (h : KOk w0 K w) (α : Type) [Flat α] (e : TypeId) : KOk w0 (ownF e (.slice none 0 0) ([] : List α) :: K) w := h.addnil e (Flat.k α)
set_option linter.unusedSimpArgs false
set_option linter.unusedVariables false
set_option maxHeartbeats 1000000
set_option maxRecDepth 10000
attribute [local irreducible] HC HL HQ HX HO At Y YV Opd Opds KnX Sl Ld Src GV RV Calls Code.wp eptr adr RdF ownF OneX HG LdC
theorem ask_le (g : Gr) (q : Qu) : (askL g q).length ≤ 1000 := by
  unfold askL
  split
  · rename_i h
    have hn := h.1.1.len
    have he := h.1.2.len
    have h1 := near_len g.es q.n
    unfold askG
    split
    · simp; omega
    · split
      · by_cases hm : q.n ∈ g.ns
        · rw [distL_len h.1 hm]; omega
        · unfold distL; rw [if_neg hm]; simp
      · split
        · rw [coreL_len]; omega
        · simp
  · simp
def goodQ (xs : List Sg) (c : Int) (p : Pl) (q : Qu) : Prop := ∃ g0, readL xs = some g0 ∧ lok c = true ∧ qok q = true ∧ PlOk p
open Classical in
/-- What bytes answer, with what is at hand. -/
noncomputable def runQ (xs : List Sg) (c : Int) (p : Pl) (q : Qu) : List Int × Pl × Int := if goodQ xs c p q then (askL (view (grO (readL xs)) c) q, (allP p (pagesL (view (grO (readL xs)) c) q)).1, (allP p (pagesL (view (grO (readL xs)) c) q)).2) else ([], ⟨0, []⟩, 0)
theorem runQ_y {xs : List Sg} {c : Int} {p : Pl} {q : Qu} {g0 : Gr} (e : readL xs = some g0) (hc : lok c = true) (hq : qok q = true) (hp : PlOk p) : runQ xs c p q = (askL (view g0 c) q, (allP p (pagesL (view g0 c) q)).1, (allP p (pagesL (view g0 c) q)).2) := by
  unfold runQ
  rw [if_pos ⟨g0, e, hc, hq, hp⟩, e]
  rfl
theorem runQ_n {xs : List Sg} {c : Int} {p : Pl} {q : Qu} (h : ¬ goodQ xs c p q) : runQ xs c p q = ([], ⟨0, []⟩, 0) := if_neg h
theorem runQ_len (xs : List Sg) (c : Int) (p : Pl) (q : Qu) : (runQ xs c p q).1.length ≤ 1000 ∧ (runQ xs c p q).2.1.l.length ≤ 1000 := by
  by_cases h : goodQ xs c p q
  · obtain ⟨g0, e1, hc, hq, hp⟩ := h
    rw [runQ_y e1 hc hq hp]
    have hgv := (readL_some e1).1.view (c := c)
    have h1 := PlOk.all (p := p) (list := pagesL (view g0 c) q) hp (fun x hx => (pages_in hgv hx).1)
    have h2 := h1.1
    refine ⟨?_, by dsimp only; omega⟩
    exact ask_le _ _
  · rw [runQ_n h]; simp
theorem c_s_Run {v : Value} {xs : List Sg} {c k l n z : Int} {A : Option Addr} {m cp : Nat} {ps : List Pg} (w : World) (hs : ∀ s ∈ xs, s.b.size ≤ 4000000) (hl : xs.length ≤ 2000000) (hr : RdF w v xs := by exact rdA) (hp : RdF w (.slice A m cp) ps := by exact rdA) :
    Calls Tryz.prog 43 #[v, .int .i64 c, .agg #[.int .i64 z, .slice A m cp], .agg #[.int .i64 k, .int .i64 l, .int .i64 n]] w (Ret (fun y : V1 × Sv => .tuple #[y.1.1, .agg #[.int .i64 (runQ xs c ⟨z, ps⟩ ⟨k, ⟨l, n⟩⟩).2.1.z, .slice y.2.a y.2.n y.2.c], .int .i64 (runQ xs c ⟨z, ps⟩ ⟨k, ⟨l, n⟩⟩).2.2]) (fun y => [ownF 3 y.1.1 (runQ xs c ⟨z, ps⟩ ⟨k, ⟨l, n⟩⟩).1, ownF 63 (.slice y.2.a y.2.n y.2.c) (runQ xs c ⟨z, ps⟩ ⟨k, ⟨l, n⟩⟩).2.1.l]) w) := by
  by_cases h : goodQ xs c ⟨z, ps⟩ ⟨k, ⟨l, n⟩⟩
  · obtain ⟨g0, e1, hc, hq, hok⟩ := h
    rw [runQ_y e1 hc hq hok, allP_z]
    refine (c_s_QueryRun_y w hs hl e1 hc hq hok hr hp).mono fun en w' ⟨y, he, hk⟩ => ?_
    obtain ⟨y1, ⟨v2, h2⟩⟩ := y
    obtain ⟨s, rfl⟩ := ownF_sv (List.mem_cons_of_mem _ List.mem_cons_self) hk
    exact ⟨(y1, s), he, hk⟩
  · rw [runQ_n h]
    refine (c_s_QueryRun_n w hs hl h hr hp).mono fun en w' ⟨y, he, hk⟩ => ?_
    exact ⟨(y, ⟨none, 0, 0⟩), he, (hk.addn Pg 63).perm (List.Perm.swap _ _ _)⟩
theorem c_i_Run {v : Value} {xs : List Sg} {c k l n z : Int} {A : Option Addr} {m cp : Nat} {ps : List Pg} (w : World) (hs : ∀ s ∈ xs, s.b.size ≤ 4000000) (hl : xs.length ≤ 2000000) (hr : RdF w v xs := by exact rdA) (hp : RdF w (.slice A m cp) ps := by exact rdA) :
    Calls Tryz.prog 38 #[v, .int .i64 c, .agg #[.int .i64 z, .slice A m cp], .agg #[.int .i64 k, .int .i64 l, .int .i64 n]] w (Ret (fun y : V1 × Sv => .tuple #[y.1.1, .agg #[.int .i64 (runQ xs c ⟨z, ps⟩ ⟨k, ⟨l, n⟩⟩).2.1.z, .slice y.2.a y.2.n y.2.c], .int .i64 (runQ xs c ⟨z, ps⟩ ⟨k, ⟨l, n⟩⟩).2.2]) (fun y => [ownF 3 y.1.1 (runQ xs c ⟨z, ps⟩ ⟨k, ⟨l, n⟩⟩).1, ownF 63 (.slice y.2.a y.2.n y.2.c) (runQ xs c ⟨z, ps⟩ ⟨k, ⟨l, n⟩⟩).2.1.l]) w) := by
  by_cases h : goodQ xs c ⟨z, ps⟩ ⟨k, ⟨l, n⟩⟩
  · obtain ⟨g0, e1, hc, hq, hok⟩ := h
    rw [runQ_y e1 hc hq hok, allP_z]
    exact c_i_QueryRun_y w hs hl e1 hc hq hok hr hp
  · rw [runQ_n h]
    refine (c_i_QueryRun_n w hs hl h hr hp).mono fun en w' ⟨y, he, hk⟩ => ?_
    exact ⟨(⟨.slice none 0 0, rfl⟩, ⟨none, 0, 0⟩), he, ((hk.addn Pg 63).addn Int 3)⟩
end E
end Go.Proofs.YtpiiapoafmnhhaaGreat
namespace Go.Proofs.YtpiiapoafmnhhaaGreat
namespace E
open Go Go.RowKit
set_option linter.unusedVariables false
section
variable {P : Program} {N : Nat} {w0 : World} {K : List Ck} {F : List (Nat × En)} {Q : Exit → Act → World → Prop} {ops : Array Oper} {rest : List Oper} {d : Nat} {ty : TypeId} {pos : String} {af : Array Edge} {m m' : Md} {c : Bool}
theorem ox_consh {s fuel : Nat} {listed : Array Bool} {Kp : List Ck} {o : Oper} {i j : Nat} {want : Bool} (hi : ops[i]? = some o) (hgd : o.guard = some (j, want)) (hG : GV N F ops j want c) (hc : c = true) (h : HO P N w0 (NoPanic Q) o (KnX P w0 ops Q s Kp fuel (listed.setIfInBounds i true)) F K) : OneX P N w0 ops Q s Kp fuel listed F K [i] := fun k hk => by
  obtain rfl : k = i := by simpa using hk
  intro a w ha hw
  have hwant : Region.wanted o (yielded ops a.tmps) = c := by simp only [Region.wanted, hgd]; exact hG a ha
  unfold wpOp
  simp only [hi]
  rw [hwant, if_pos hc]
  exact .inl (h a w ha hw)
theorem hgog {o : Oper} {j : Nat} {want : Bool} {ι : Sort _} {Ki : ι → List Ck} {Fi : ι → List (Nat × En)} (hG : GV N F ops j want c) (hc : c = true) (hA : KA ops m) (hB : ∀ z, KB ops m (Ki z)) (hX : NX m m') (hgd : o.guard = some (j, want)) (hr : ∀ z, HG P N w0 ops Q m' rest (Fi z) (Ki z)) (h : ∀ Q' Kn, (∀ z, At N w0 Kn (Fi z) (Ki z)) → HO P N w0 Q' o Kn F K) : HG P N w0 ops Q m (o :: rest) F K := by
  cases hA with
  | l =>
    cases hX
    intro a w ha hw
    have h' := h Q _ hr a w ha hw
    unfold wpList
    have hw1 : Region.wanted o (yielded ops a.tmps) = c := by simp only [Region.wanted, hgd]; exact hG a ha
    rw [hw1, if_pos hc]
    exact .inl h'
  | @x s i Kp is hs =>
    cases hX
    intro hGa hnd
    obtain ⟨h1, h2, h3⟩ := gath_step hGa
    refine hx_all _ hs rfl (ox_consh h1 hgd hG hc (h _ _ fun z => ?_))
    rw [lst_set h2 hnd]
    have hz := hB z
    cases hz with
    | x hK => exact at_x hK (hr z h3 (List.nodup_cons.1 hnd).2)
  | @y s i Kp is =>
    cases hX
    intro hGa hnd
    obtain ⟨h1, h2, h3⟩ := gath_step hGa
    refine ox_consh h1 hgd hG hc (h _ _ fun z => ?_)
    rw [lst_set h2 hnd]
    have hz := hB z
    cases hz with
    | y hK => exact at_x hK (hr z h3 (List.nodup_cons.1 hnd).2)
theorem oc_g {f : FuncId} {xs : Array Operand} {ts : Array TypeId} {gd : Option (Nat × Bool)} {Q' : Exit → Act → World → Prop} {Kn : Act → World → Prop} (h : HO P N w0 Q' ⟨some d, .call { callee := .value (.func f), args := xs, argTypes := ts }, ty, pos, af, none⟩ Kn F K) : HO P N w0 Q' ⟨some d, .call { callee := .value (.func f), args := xs, argTypes := ts }, ty, pos, af, gd⟩ Kn F K := h
/-- A call that hands back new memory, under a guard that holds. -/
theorem cmg {α : Type} {val : α → Value} {Kr : α → List Ck} {f : FuncId} [T : FnOk P f] {xs : Array Operand} {ts : Array TypeId} {vs : List Value} {j : Nat} {want : Bool} (hN : d < N := by decide) (hG : GV N F ops j want c := by first | exact GV.pt rfl rfl | exact GV.pf rfl rfl | exact GV.gt rfl rfl | exact GV.gf rfl rfl) (hc : c = true := by first | rfl | exact decide_eq_true (by first | assumption | omega) | (simp only [Bool.and_eq_true, Bool.or_eq_true, Bool.not_eq_true', decide_eq_true_eq, decide_eq_false_iff_not]; omega)) (hx : Opds N F true xs.toList vs := by exact opx) (h : ∀ w, KOk w0 K w → Calls P f vs.toArray w (Ret val Kr w)) (k : ∀ z, HG P N w0 ops Q m' rest ((d, .pl (val z)) :: F) (Kr z ++ K)) (hX : NX m m' := by first | exact NX.l | exact NX.q | exact NX.x _ _ _ _ | exact NX.y _ _ _ _) (hA : KA ops m := by first | exact KA.l | exact KA.y | exact KA.x (by decide +kernel)) (hB : ∀ z, KB ops m (Kr z ++ K) := by first | exact fun _ => KB.l | exact fun _ => KB.x (Or.inr ks) | exact fun _ => KB.x (Or.inl (by decide +kernel)) | exact fun _ => KB.y (Or.inr ks) | exact fun _ => KB.y (Or.inl (by decide +kernel))) :
    HG P N w0 ops Q m (⟨some d, .call { callee := .value (.func f), args := xs, argTypes := ts }, ty, pos, af, some (j, want)⟩ :: rest) F K := by
  exact hgog (Fi := fun z => (d, .pl (val z))  :: F) (Ki := fun z => Kr z ++ K) hG hc hA hB hX rfl k (fun Q' Kn hk => oc_g (oc h hk hN hx))
/-- An operation that is ready is taken to the front. -/
theorem hdx (j : Nat) {s : Nat} {Kp : List Ck} {is is1 : List Nat} {l l1 : List Oper} {o : Oper} (a : HG P N w0 ops Q (.x s Kp (j :: is1)) (o :: l1) F K) (h1 : Ex j is l o is1 l1 := by (apply Ex.there; repeat (first | exact Ex.here _ _ _ _ | apply Ex.there)); first | done | fail) (_hr : (Region.ready .any ops (lst ops.size is)).contains j = true := by decide +kernel) : HG P N w0 ops Q (.x s Kp is) l F K := fun hG hnd => by
  have h2 := a (h1.gath hG) ((h1.perm.1.nodup_iff).1 hnd)
  rw [lst_perm h1.perm.1, h1.perm.2]
  exact h2
/-- A quiet operation that was chosen. -/
theorem qb {s i : Nat} {Kp : List Ck} {is : List Nat} {o : Oper} {v : Value} (hr : HG P N w0 ops Q (.x s Kp is) rest ((d, .pl v) :: F) K) (hd : o.dst = some d := by rfl) (hN : d < N := by decide) (hg : o.guard = none := by rfl) (hK : (lst ops.size is).getD s false = true ∨ KSub K Kp := by first | exact Or.inr ks | exact Or.inl (by decide +kernel)) (hy : YV P N w0 K F true o v) : HG P N w0 ops Q (.y s Kp i is) (o :: rest) F K := E.hg hd hN (by rw [hg]; exact GE.n) (KC.y hK) (NX.y _ _ _ _) hy.y (IE.n _ _) hr
theorem ho_appD {α : Type} [Flat α] {t t' e : TypeId} {v : Value} {x y : Operand} {xs : List α} {K' : List Ck} {sz bytes : Nat} {Q' : Exit → Act → World → Prop} {Kn : Act → World → Prop} [T : TSlc P t e] [R : TRow P e sz bytes] (hsz : sz = Flat.k α) (hN : d < N) (hx : Opd N F true x v) (hy : Opd N F true y v)
    (hp : Pick K (ownF e v xs) K') (hb : (xs.length + xs.length) * bytes ≤ 140737488355328 ∧ xs.length + xs.length ≤ maxLen)
    (hr : ∀ v', v'.oneCell' = true → At N w0 Kn ((d, .pl v') :: F) (ownF e v' (xs ++ xs) :: K')) :
    HO P N w0 Q' ⟨some d, .call { callee := .builtin .append, args := #[x, y], argTypes := #[t, t] }, ty, pos, af, none⟩ Kn F K := fun a w ha hw => by
  subst hsz
  have hw' := hw.pick hp
  have hown := hw'.holds _ List.mem_cons_self
  obtain ⟨v', w', hrun, h2, h3, h4⟩ := run_append_any (P := P) w w0.heap.size t ty e (Flat.k α) bytes T.is v xs.length (cells xs) hown v xs.length (cells xs) (Rd.of_own hown) (cells_one xs) hb.2 hb.1 hw.below.size
  have hr' := hr v' (own_one h2)
  unfold ownF at hr'
  rw [cells_append, List.length_append] at hr'
  refine ho_val v' w' ?_ (hr' _ _ (ha.put d (.pl v') v' hN rfl) (hw'.turn_own h3 h2 h4))
  simp [execOp, resolve, invoke, builtin, hx a ha rfl, hy a ha rfl, hrun]
/-- append of a row to itself. -/
theorem apD {α : Type} [Flat α] {t e : TypeId} {v : Value} {x y : Operand} {xs : List α} {K' : List Ck} {sz bytes : Nat} [T : TSlc P t e] [R : TRow P e sz bytes] (hr : ∀ v', v'.oneCell' = true → HG P N w0 ops Q m' rest ((d, .pl v') :: F) (ownF e v' (xs ++ xs) :: K')) (hN : d < N := by decide) (hx : Opd N F true x v := by exact Opd.pl rfl) (hy : Opd N F true y v := by exact Opd.pl rfl) (hp : Pick K (ownF e v xs) K' := by exact pk) (hb : (xs.length + xs.length) * bytes ≤ 140737488355328 ∧ xs.length + xs.length ≤ maxLen := by (simp only [maxLen]; omega)) (hsz : sz = Flat.k α := by rfl) (hX : NX m m' := by first | exact NX.l | exact NX.q | exact NX.x _ _ _ _ | exact NX.y _ _ _ _) (hA : KA ops m := by first | exact KA.l | exact KA.y | exact KA.x (by decide +kernel)) (hB : ∀ (z : { v' : Value // v'.oneCell' = true }), KB ops m (ownF e z.1 (xs ++ xs) :: K') := by first | exact fun _ => KB.l | exact fun _ => KB.x (Or.inr ks) | exact fun _ => KB.x (Or.inl (by decide +kernel)) | exact fun _ => KB.y (Or.inr ks) | exact fun _ => KB.y (Or.inl (by decide +kernel))) :
    HG P N w0 ops Q m (⟨some d, .call { callee := .builtin .append, args := #[x, y], argTypes := #[t, t] }, ty, pos, af, none⟩ :: rest) F K := hgo (Fi := fun z => (d, .pl z.1) :: F) (Ki := fun z : { v' : Value // v'.oneCell' = true } => ownF e z.1 (xs ++ xs) :: K') hA hB hX rfl (fun z => hr z.1 z.2) (fun Q' Kn hk => ho_appD (t' := t) hsz hN hx hy hp hb (fun v' h => hk ⟨v', h⟩))
end
end E
end Go.Proofs.YtpiiapoafmnhhaaGreat
namespace Go.Proofs.YtpiiapoafmnhhaaGreat
namespace E
open Go Go.RowKit
set_option linter.unusedSimpArgs false
set_option linter.unusedVariables false
set_option maxHeartbeats 1000000
set_option maxRecDepth 10000
attribute [local irreducible] HC HL HQ HX HO At Y YV Opd Opds KnX Sl Ld Src GV RV Calls Code.wp eptr adr RdF ownF OneX HG LdC
theorem c_i_GraphView {v u : Value} {g : Gr} {c : Int} (w : World) (hg : g.ok) (hr : RdF w v g.ns := by exact rdA) (hq : RdF w u g.es := by exact rdA) :
    Calls Tryz.prog 29 #[.agg #[v, u], .int .i64 c] w (Ret (fun z : V1 × V1 => .agg #[z.1.1, z.2.1]) (fun z => [ownF 32 z.1.1 (view g c).ns, ownF 84 z.2.1 (view g c).es]) w) := by
  have o1 := hr.one
  have o2 := hq.one
  have hgt := gok_t hg
  have hnl := hg.1.len
  have hel := hg.2.len
  refine enter (args := _) Tryz.func29 rfl Tryz.ntmps29 (by simp) ?_
  refine E.nl 32 (α := Nd) ?_
  refine E.nl 84 (α := Eg) ?_
  repeat' (first | refine E.st ?_ | refine E.bx (fun g2 => ?_) | refine E.al (fun g4 => ?_) | refine E.cl (h := fun _ w hw => c_i_GraphOk_t w hgt (hr.now hw) (hq.now hw)) (k := ?_) | refine E.q3 ?_ | refine E.q ?_ | refine E.qs ?_ | refine E.q2 ?_ | refine E.q4 ?_ | refine E.tr ?_ | refine E.ap (fun _ _ => ?_) | refine E.b1 (fun _ _ => ?_) | refine E.b0 (fun _ _ => ?_) | refine E.bsn (fun _ _ => ?_) | refine E.mk (fun _ _ => ?_) | refine E.bxO (fun _ => ?_) | refine E.al (fun _ => ?_) | refine E.sbO ?_ | refine E.dq ?_ | refine E.ct ?_ | refine E.cf ?_ | refine E.cs (fun hh => ?_) (fun hh => ?_) | refine E.at_block_other rfl ?_)
  refine lq (fun s : Nat × V1 => s.1 ≤ g.ns.length) (fun s => [(17, .pl (.int .i64 (s.1 : Int)))]) (fun s => [ownF 32 s.2.1 ((g.ns.take s.1).filter (fun x => lun x.l c)), .box g4 45 [s.2.1, .slice none 0 0]]) (fun s => g.ns.length - s.1) (0, ⟨.slice none 0 0, rfl⟩) (Nat.zero_le _) (fun s hs => ?_)
  obtain ⟨k, ⟨vN, hvN⟩⟩ := s
  dsimp only at hs hvN ⊢
  simp only [List.append_eq, List.nil_append, List.cons_append]
  have hfl := filter_len (fun x : Nd => lun x.l c) g.ns k
  rcases Nat.lt_or_ge k g.ns.length with hlt | hge
  · obtain ⟨⟨xl, xn⟩, hx⟩ := get_lt hlt
    have hst := take_filter_step (fun x : Nd => lun x.l c) hx
    cases hlu : lun xl c with
    | true =>
      have hcl : ∀ w, Calls Tryz.prog 39 #[.int .i64 xl, .int .i64 c] w (Ret (fun _ : Unit => .bool true) (fun _ => []) w) := fun w => by rw [← hlu]; exact c_i_LabelUnder w
      rw [if_pos hlu] at hst
      repeat' (first | refine E.st ?_ | refine E.cl (h := fun _ w _ => hcl w) (k := ?_) | refine E.q3 ?_ | refine E.q ?_ | refine E.qs ?_ | refine E.q2 ?_ | refine E.q4 ?_ | refine E.tr ?_ | refine E.ap (fun _ _ => ?_) | refine E.b1 (fun _ _ => ?_) | refine E.b0 (fun _ _ => ?_) | refine E.bsn (fun _ _ => ?_) | refine E.mk (fun _ _ => ?_) | refine E.bxO (fun _ => ?_) | refine E.al (fun _ => ?_) | refine E.sbO ?_ | refine E.dq ?_ | refine E.ct ?_ | refine E.cf ?_ | refine E.cs (fun hh => ?_) (fun hh => ?_) | refine E.at_block_other rfl ?_)
      rename_i v9 h9; exact rd (α := Nat × V1) (k + 1, ⟨v9, h9⟩) hlt (hK := KSub.ownF pk hst.symm ksv)
    | false =>
      have hcl : ∀ w, Calls Tryz.prog 39 #[.int .i64 xl, .int .i64 c] w (Ret (fun _ : Unit => .bool false) (fun _ => []) w) := fun w => by rw [← hlu]; exact c_i_LabelUnder w
      rw [if_neg (by dsimp only; rw [hlu]; simp), List.append_nil] at hst
      repeat' (first | refine E.st ?_ | refine E.cl (h := fun _ w _ => hcl w) (k := ?_) | refine E.q3 ?_ | refine E.q ?_ | refine E.qs ?_ | refine E.q2 ?_ | refine E.q4 ?_ | refine E.tr ?_ | refine E.ap (fun _ _ => ?_) | refine E.b1 (fun _ _ => ?_) | refine E.b0 (fun _ _ => ?_) | refine E.bsn (fun _ _ => ?_) | refine E.mk (fun _ _ => ?_) | refine E.bxO (fun _ => ?_) | refine E.al (fun _ => ?_) | refine E.sbO ?_ | refine E.dq ?_ | refine E.ct ?_ | refine E.cf ?_ | refine E.cs (fun hh => ?_) (fun hh => ?_) | refine E.at_block_other rfl ?_)
      exact rd (α := Nat × V1) (k + 1, ⟨vN, hvN⟩) hlt (hK := KSub.ownF pk hst.symm ksv)
  · rw [List.take_of_length_le hge]
    repeat' (first | refine E.st ?_ | refine E.q3 ?_ | refine E.q ?_ | refine E.qs ?_ | refine E.q2 ?_ | refine E.q4 ?_ | refine E.tr ?_ | refine E.ap (fun _ _ => ?_) | refine E.b1 (fun _ _ => ?_) | refine E.b0 (fun _ _ => ?_) | refine E.bsn (fun _ _ => ?_) | refine E.mk (fun _ _ => ?_) | refine E.bxO (fun _ => ?_) | refine E.al (fun _ => ?_) | refine E.sbO ?_ | refine E.dq ?_ | refine E.ct ?_ | refine E.cf ?_ | refine E.cs (fun hh => ?_) (fun hh => ?_) | refine E.at_block_other rfl ?_)
    refine lq (fun s : Nat × V1 => s.1 ≤ g.es.length) (fun s => [(35, .pl (.int .i64 (s.1 : Int)))]) (fun s => [ownF 84 s.2.1 ((g.es.take s.1).filter (fun x => lun x.l c)), .box g4 45 [vN, s.2.1]]) (fun s => g.es.length - s.1) (0, ⟨.slice none 0 0, rfl⟩) (Nat.zero_le _) (fun s hs => ?_)
    obtain ⟨j, ⟨vE, hvE⟩⟩ := s
    dsimp only at hs hvE ⊢
    simp only [List.append_eq, List.nil_append, List.cons_append]
    have hfl2 := filter_len (fun x : Eg => lun x.l c) g.es j
    rcases Nat.lt_or_ge j g.es.length with hlt | hge2
    · obtain ⟨⟨xl, ⟨al, an⟩, ⟨bl, bn⟩⟩, hx⟩ := get_lt hlt
      have hst := take_filter_step (fun x : Eg => lun x.l c) hx
      cases hlu : lun xl c with
      | true =>
        have hcl : ∀ w, Calls Tryz.prog 39 #[.int .i64 xl, .int .i64 c] w (Ret (fun _ : Unit => .bool true) (fun _ => []) w) := fun w => by rw [← hlu]; exact c_i_LabelUnder w
        rw [if_pos hlu] at hst
        repeat' (first | refine E.st ?_ | refine E.cl (h := fun _ w _ => hcl w) (k := ?_) | refine E.q3 ?_ | refine E.q ?_ | refine E.qs ?_ | refine E.q2 ?_ | refine E.q4 ?_ | refine E.tr ?_ | refine E.ap (fun _ _ => ?_) | refine E.b1 (fun _ _ => ?_) | refine E.b0 (fun _ _ => ?_) | refine E.bsn (fun _ _ => ?_) | refine E.mk (fun _ _ => ?_) | refine E.bxO (fun _ => ?_) | refine E.al (fun _ => ?_) | refine E.sbO ?_ | refine E.dq ?_ | refine E.ct ?_ | refine E.cf ?_ | refine E.cs (fun hh => ?_) (fun hh => ?_) | refine E.at_block_other rfl ?_)
        rename_i v9 h9; exact rd (α := Nat × V1) (j + 1, ⟨v9, h9⟩) hlt (hK := KSub.ownF pk hst.symm ksv)
      | false =>
        have hcl : ∀ w, Calls Tryz.prog 39 #[.int .i64 xl, .int .i64 c] w (Ret (fun _ : Unit => .bool false) (fun _ => []) w) := fun w => by rw [← hlu]; exact c_i_LabelUnder w
        rw [if_neg (by dsimp only; rw [hlu]; simp), List.append_nil] at hst
        repeat' (first | refine E.st ?_ | refine E.cl (h := fun _ w _ => hcl w) (k := ?_) | refine E.q3 ?_ | refine E.q ?_ | refine E.qs ?_ | refine E.q2 ?_ | refine E.q4 ?_ | refine E.tr ?_ | refine E.ap (fun _ _ => ?_) | refine E.b1 (fun _ _ => ?_) | refine E.b0 (fun _ _ => ?_) | refine E.bsn (fun _ _ => ?_) | refine E.mk (fun _ _ => ?_) | refine E.bxO (fun _ => ?_) | refine E.al (fun _ => ?_) | refine E.sbO ?_ | refine E.dq ?_ | refine E.ct ?_ | refine E.cf ?_ | refine E.cs (fun hh => ?_) (fun hh => ?_) | refine E.at_block_other rfl ?_)
        exact rd (α := Nat × V1) (j + 1, ⟨vE, hvE⟩) hlt (hK := KSub.ownF pk hst.symm ksv)
    · rw [List.take_of_length_le hge2]
      repeat' (first | refine E.st ?_ | refine E.q3 ?_ | refine E.q ?_ | refine E.qs ?_ | refine E.q2 ?_ | refine E.q4 ?_ | refine E.tr ?_ | refine E.ap (fun _ _ => ?_) | refine E.b1 (fun _ _ => ?_) | refine E.b0 (fun _ _ => ?_) | refine E.bsn (fun _ _ => ?_) | refine E.mk (fun _ _ => ?_) | refine E.bxO (fun _ => ?_) | refine E.al (fun _ => ?_) | refine E.sbO ?_ | refine E.dq ?_ | refine E.ct ?_ | refine E.cf ?_ | refine E.cs (fun hh => ?_) (fun hh => ?_) | refine E.at_block_other rfl ?_)
      exact r1 (α := V1 × V1) (⟨vN, hvN⟩, ⟨vE, hvE⟩) (hK := ksv)
theorem c_wpPages {v u : Value} {xs : List Pg} (w : World) (hl : xs.length ≤ 2000000 := by omega) (hr : RdF w v xs := by exact rdA) (hq : RdF w u xs := by exact rdA) : Calls Tryz.prog 33 #[v, u] w (Ret (fun _ : Unit => .bool true) (fun _ => []) w) := by
  have o1 := hr.one
  have o2 := hq.one
  refine enter (args := _) Tryz.func33 rfl Tryz.ntmps33 (by simp) ?_
  repeat' (first | refine E.st ?_ | refine E.q3 ?_ | refine E.q ?_ | refine E.qs ?_ | refine E.q2 ?_ | refine E.q4 ?_ | refine E.tr ?_ | refine E.ap (fun _ _ => ?_) | refine E.b1 (fun _ _ => ?_) | refine E.b0 (fun _ _ => ?_) | refine E.bsn (fun _ _ => ?_) | refine E.mk (fun _ _ => ?_) | refine E.bxO (fun _ => ?_) | refine E.al (fun _ => ?_) | refine E.sbO ?_ | refine E.dq ?_ | refine E.ct ?_ | refine E.cf ?_ | refine E.cs (fun hh => ?_) (fun hh => ?_) | refine E.at_block_other rfl ?_)
  refine lq (fun k : Nat => k ≤ xs.length) (fun k => [(5, .pl (.int .i64 (k : Int)))]) (fun _ => []) (fun k => xs.length - k) 0 (Nat.zero_le _) (fun k hk => ?_)
  rcases Nat.lt_or_ge k xs.length with hlt | hge
  · obtain ⟨⟨xl, xa⟩, hx⟩ := get_lt hlt
    repeat' (first | refine E.st ?_ | refine E.q3 ?_ | refine E.q ?_ | refine E.qs ?_ | refine E.q2 ?_ | refine E.q4 ?_ | refine E.tr ?_ | refine E.ap (fun _ _ => ?_) | refine E.b1 (fun _ _ => ?_) | refine E.b0 (fun _ _ => ?_) | refine E.bsn (fun _ _ => ?_) | refine E.mk (fun _ _ => ?_) | refine E.bxO (fun _ => ?_) | refine E.al (fun _ => ?_) | refine E.sbO ?_ | refine E.dq ?_ | refine E.ct ?_ | refine E.cf ?_ | refine E.cs (fun hh => ?_) (fun hh => ?_) | refine E.at_block_other rfl ?_)
    all_goals first
      | exact rd (k + 1) hlt
      | (exfalso; simp_all; done)
  · repeat' (first | refine E.st ?_ | refine E.q3 ?_ | refine E.q ?_ | refine E.qs ?_ | refine E.q2 ?_ | refine E.q4 ?_ | refine E.tr ?_ | refine E.ap (fun _ _ => ?_) | refine E.b1 (fun _ _ => ?_) | refine E.b0 (fun _ _ => ?_) | refine E.bsn (fun _ _ => ?_) | refine E.mk (fun _ _ => ?_) | refine E.bxO (fun _ => ?_) | refine E.al (fun _ => ?_) | refine E.sbO ?_ | refine E.dq ?_ | refine E.ct ?_ | refine E.cf ?_ | refine E.cs (fun hh => ?_) (fun hh => ?_) | refine E.at_block_other rfl ?_)
    exact rb
end E
end Go.Proofs.YtpiiapoafmnhhaaGreat
namespace Go.Proofs.YtpiiapoafmnhhaaGreat
namespace E
open Go Go.RowKit
set_option linter.unusedSimpArgs false
set_option linter.unusedVariables false
set_option maxHeartbeats 1000000
set_option maxRecDepth 10000
attribute [local irreducible] HC HL HQ HX HO At Y YV Opd Opds KnX Sl Ld Src GV RV Calls Code.wp eptr adr RdF ownF OneX HG LdC
theorem tx_sizeB (l : List UInt8) : (tx l).size = l.length := rfl
theorem c_l4Torn {g : Nat} {bv : Value} {bs : List UInt8} {p : Nat} {w0 : World} {K : List Ck} {s : ByteArray} (w : World) (hw : KOk w0 (.box g 152 [bv, .int .i64 ((p : Nat) : Int)] :: K) w) (hb : RdIn w0 K bv bs := by exact rdI) (hs : s.size ≤ 4000000 := by omega) (hp : p ≤ 99999900 := by omega) :
    Calls Tryz.prog 152 #[.pointer (some ⟨g, 0, none⟩), .string s] w (RetK (fun z : { z : ByteArray × Nat // z.1.size ≤ s.size + 1 ∧ p ≤ z.2 ∧ z.2 ≤ p + 4 } => .string z.1.1) (fun z => .box g 152 [bv, .int .i64 ((z.1.2 : Nat) : Int)] :: K) w0) := by
  by_cases h0 : s = ⟨#[]⟩
  · subst h0
    refine enterK (args := _) hw Tryz.func152 rfl Tryz.ntmps152 (by simp) ?_
    repeat' (first | refine E.st ?_ | refine E.sk ?_ (hc := by simp) | refine E.q3 ?_ | refine E.q ?_ | refine E.qs ?_ | refine E.q2 ?_ | refine E.q4 ?_ | refine E.tr ?_ | refine E.ap (fun _ _ => ?_) | refine E.b1 (fun _ _ => ?_) | refine E.b0 (fun _ _ => ?_) | refine E.bsn (fun _ _ => ?_) | refine E.mk (fun _ _ => ?_) | refine E.bxO (fun _ => ?_) | refine E.al (fun _ => ?_) | refine E.sbO ?_ | refine E.dq ?_ | refine E.ct ?_ | refine E.cf ?_ | refine E.cs (fun hh => ?_) (fun hh => ?_) | refine E.at_block_other rfl ?_)
    all_goals first
      | exact r1K (α := { z : ByteArray × Nat // z.1.size ≤ (⟨#[]⟩ : ByteArray).size + 1 ∧ p ≤ z.2 ∧ z.2 ≤ p + 4 }) ⟨(⟨#[]⟩, p), by dsimp only; omega, by dsimp only; omega, by dsimp only; omega⟩ (hK := ksv)
      | (exfalso; simp_all; done)
      | trace_state
  · have hsz : 0 < s.size := by
      rcases Nat.eq_zero_or_pos s.size with h | h
      · exfalso
        apply h0
        cases s with
        | mk d =>
          congr
          exact Array.eq_empty_of_size_eq_zero h
      · exact h
    refine enterK (args := _) hw Tryz.func152 rfl Tryz.ntmps152 (by simp) ?_
    repeat' (first | refine E.st ?_ | refine E.ug ?_ | refine E.dxp g (i := 4) [0, 1, 2, 3, 10, 11, 12, 4, 5, 6, 7, 13, 14, 15, 8, 9, 16, 17] ?_ | refine E.br2 (i := 7) (j := 13) ?_ ?_ | refine E.br2 (i := 8) (j := 13) ?_ ?_ | refine E.qb (hy := a_b2s) ?_ | refine E.qs (hy := a_b2s) ?_ | refine E.qp ?_ | refine E.qp (hy := fun _ => a_cat (hl := fun _ => by simp only [ByteArray.size_append, ByteArray.size_extract, tx_sizeB, List.length_singleton]; omega)) ?_ | refine E.hdx 14 ?_ | refine E.hdx 15 ?_ | refine E.hdx 9 ?_ | refine E.ckq (h := fun w hw => c_num w hw (xs := [0, 1, 2, 3, 64, 127, 128, 129, 255])) (k := fun zn => ?_) | refine E.ckq (h := fun w hw => c_pick w hw (n := (s.size : Int))) (k := fun zk => ?_) | refine E.ckq (h := fun w hw => c_pick w hw) (k := fun zp => ?_) | refine E.q3 ?_ | refine E.q ?_ | refine E.qs ?_ | refine E.q2 ?_ | refine E.q4 ?_ | refine E.tr ?_ | refine E.ap (fun _ _ => ?_) | refine E.b1 (fun _ _ => ?_) | refine E.b0 (fun _ _ => ?_) | refine E.bsn (fun _ _ => ?_) | refine E.mk (fun _ _ => ?_) | refine E.bxO (fun _ => ?_) | refine E.al (fun _ => ?_) | refine E.sbO ?_ | refine E.dq ?_ | refine E.ct ?_ | refine E.cf ?_ | refine E.cs (fun hh => ?_) (fun hh => ?_) | refine E.at_block_other rfl ?_)
    all_goals first
      | exact r1K (α := { z : ByteArray × Nat // z.1.size ≤ s.size + 1 ∧ p ≤ z.2 ∧ z.2 ≤ p + 4 }) ⟨(s, p + 1), by dsimp only; omega, by dsimp only; omega, by dsimp only; omega⟩ (hK := ksv)
      | exact r1K (α := { z : ByteArray × Nat // z.1.size ≤ s.size + 1 ∧ p ≤ z.2 ∧ z.2 ≤ p + 4 }) ⟨(s.extract 0 zk.1 ++ tx [UInt8.ofInt zn.1] ++ s.extract (zk.1 + zp.1) s.size, p + 4), by have := zk.2.1 (by omega); simp only [ByteArray.size_append, ByteArray.size_extract, tx_sizeB, List.length_singleton]; omega, by dsimp only; omega, by dsimp only; omega⟩ (hK := ksv)
      | trace_state
end E
end Go.Proofs.YtpiiapoafmnhhaaGreat
namespace Go.Proofs.YtpiiapoafmnhhaaGreat
namespace E
open Go Go.RowKit
set_option linter.unusedSimpArgs false
set_option linter.unusedVariables false
set_option maxHeartbeats 1000000
set_option maxRecDepth 10000
attribute [local irreducible] HC HL HQ HX HO At Y YV Opd Opds KnX Sl Ld Src GV RV Calls Code.wp eptr adr RdF ownF OneX HG LdC
def cutS (b : Bool) (xs : List Sg) : List Sg := if b = true then xs.drop 1 else xs
theorem cutS_rd {w0 : World} {K : List Ck} {v : Value} {xs : List Sg} {b : Bool} (h : ownF 65 v xs ∈ K) (hb : b = true → 0 < xs.length) : RdIn w0 K (cutV b v xs.length) (cutS b xs) := fun w hw => by
  have hr : RdF w v xs := RdF.of_own h hw
  cases b with
  | true => exact hr.suf (i := 1) (hb rfl)
  | false => exact hr
/-- What a bent store is told by: its row, whether the first is cut off, where the draw stands. -/
abbrev BS (p : Nat) := { z : V1 × List Sg × Bool × Nat // (z.2.1.length ≤ 1010 ∧ ∀ s ∈ z.2.1, s.b.size ≤ 100001) ∧ (z.2.2.1 = true → 0 < z.2.1.length) ∧ p ≤ z.2.2.2 ∧ z.2.2.2 ≤ p + 20 }
theorem bent_set {xs : List Sg} {k : Nat} {a : Int} {b : ByteArray} (hl : xs.length ≤ 1000) (hs : ∀ s ∈ xs, s.b.size ≤ 100000) (hb : b.size ≤ 100001) : (xs.set k ⟨a, b⟩).length ≤ 1010 ∧ ∀ s ∈ xs.set k ⟨a, b⟩, s.b.size ≤ 100001 := by
  refine ⟨by rw [List.length_set]; omega, fun s h => ?_⟩
  rcases List.mem_or_eq_of_mem_set h with h | h
  · have := hs s h; omega
  · subst h; exact hb
theorem bent_app {xs : List Sg} {x : Sg} (hl : xs.length ≤ 1000) (hs : ∀ s ∈ xs, s.b.size ≤ 100000) (hx : x ∈ xs) : (xs ++ [x]).length ≤ 1010 ∧ ∀ s ∈ xs ++ [x], s.b.size ≤ 100001 := by
  refine ⟨by rw [List.length_append, List.length_singleton]; omega, fun s h => ?_⟩
  rcases List.mem_append.1 h with h | h
  · have := hs s h; omega
  · have := hs s (by rw [List.mem_singleton.1 h]; exact hx); omega
theorem bent_self {xs : List Sg} (hl : xs.length ≤ 1000) (hs : ∀ s ∈ xs, s.b.size ≤ 100000) : xs.length ≤ 1010 ∧ ∀ s ∈ xs, s.b.size ≤ 100001 := ⟨by omega, fun s h => by have := hs s h; omega⟩
theorem c_l4Bent_1 {g : Nat} {bv : Value} {bs : List UInt8} {p : Nat} {w0 : World} {K : List Ck} {v : Value} {xs : List Sg} (w : World) (hw : KOk w0 (.box g 152 [bv, .int .i64 ((p : Nat) : Int)] :: K) w) (hb : RdIn w0 K bv bs := by exact rdI) (hn : RdIn w0 K v xs := by exact rdI) (h1 : 0 < xs.length) (hl : xs.length ≤ 1000) (hs : ∀ s ∈ xs, s.b.size ≤ 100000) (hp : p ≤ 99999000 := by omega) :
    Calls Tryz.prog 94 #[.pointer (some ⟨g, 0, none⟩), v] w (RetK (fun z : BS p => cutV z.1.2.2.1 z.1.1.1 z.1.2.1.length) (fun z => ownF 65 z.1.1.1 z.1.2.1 :: .box g 152 [bv, .int .i64 ((z.1.2.2.2 : Nat) : Int)] :: K) w0) := by
  have o1 := (hn w hw.drop).one
  refine enterK (args := _) hw Tryz.func94 rfl Tryz.ntmps94 (by simp) ?_
  refine E.nl 65 (α := Sg) ?_
  repeat' (first | refine E.st ?_ | (refine E.apI (xs := ([] : List Sg)) (ys := xs) (hs := by exact rdI) (hr := fun v5 h5 => ?_); simp only [List.nil_append]) | refine E.ug ?_ | refine E.dxo _ (i := 11) [0, 1, 2, 3, 4, 5, 6, 7] ?_ | refine E.ckq (h := fun w hw => c_num w hw (xs := [0, 8, -1, 5])) (k := fun zn => ?_) | refine E.ckq (h := fun w hw => c_pick w hw (n := 3)) (k := fun z3 => ?_) | refine E.ckq (h := fun w hw => c_pick w hw (n := 5)) (k := fun z5 => ?_) | refine E.ckq (h := fun w hw => c_pick w hw (n := (xs.length : Int))) (k := fun zp => E.wx (get_lt (xs := xs) (k := zp.1) (by have := zp.2.1; omega)) (fun x hx => E.wy (hs x (List.mem_of_getElem? hx)) (fun hx2 => ?_))) | refine E.ckq (h := fun w hw => c_pick w hw) (k := fun zq => ?_) | refine E.ckq (h := fun w hw => c_l4Torn (s := x.b) w hw) (k := fun zt => E.wy zt.2.1 (fun ht => ?_)) | refine E.q3 ?_ | refine E.q ?_ | refine E.qs ?_ | refine E.q2 ?_ | refine E.q4 ?_ | refine E.tr ?_ | refine E.ap (fun _ _ => ?_) | refine E.b1 (fun _ _ => ?_) | refine E.b0 (fun _ _ => ?_) | refine E.bsn (fun _ _ => ?_) | refine E.mk (fun _ _ => ?_) | refine E.bxO (fun _ => ?_) | refine E.al (fun _ => ?_) | refine E.sbO ?_ | refine E.dq ?_ | refine E.ct ?_ | refine E.cf ?_ | refine E.cs (fun hh => ?_) (fun hh => ?_) | refine E.at_block_other rfl ?_)
  all_goals first
    | exact r1K (α := BS p) ⟨(⟨v5, h5⟩, xs, false, p + 1), bent_self hl hs, fun h => (by cases h), by dsimp only; omega, by dsimp only; omega⟩ (hK := ksv)
    | exact r1K (α := BS p) ⟨(⟨v5, h5⟩, xs, true, p + 3), bent_self hl hs, fun _ => h1, by dsimp only; omega, by dsimp only; omega⟩ (hK := ksv)
    | exact r1K (α := BS p) ⟨(⟨v5, h5⟩, xs.set zp.1 ⟨zn.1, x.b⟩, false, p + 4), bent_set hl hs (by omega), fun h => (by cases h), by dsimp only; omega, by dsimp only; omega⟩ (hK := ksv)
    | exact r1K (α := BS p) ⟨(⟨v5, h5⟩, xs.set zp.1 ⟨x.l, x.b.extract 0 zq.1⟩, false, p + 4), bent_set hl hs (by rw [ByteArray.size_extract]; omega), fun h => (by cases h), by dsimp only; omega, by dsimp only; omega⟩ (hK := ksv)
    | exact r1K (α := BS p) ⟨(⟨v5, h5⟩, xs.set zp.1 ⟨x.l, zt.1.1⟩, false, zt.1.2), bent_set hl hs (by omega), fun h => (by cases h), by have := zt.2.2.1; dsimp only; omega, by have := zt.2.2.2; dsimp only; omega⟩ (hK := ksv)
    | (rename_i v9 h9; exact r1K (α := BS p) ⟨(⟨v9, h9⟩, xs ++ [x], false, p + 3), bent_app hl hs (List.mem_of_getElem? hx), fun h => (by cases h), by dsimp only; omega, by dsimp only; omega⟩ (hK := ksv))
    | (exfalso; omega)
    | trace_state
theorem c_l4Bent_0 {g : Nat} {bv : Value} {bs : List UInt8} {p : Nat} {w0 : World} {K : List Ck} {v : Value} {xs : List Sg} (w : World) (hw : KOk w0 (.box g 152 [bv, .int .i64 ((p : Nat) : Int)] :: K) w) (hb : RdIn w0 K bv bs := by exact rdI) (hn : RdIn w0 K v xs := by exact rdI) (h1 : xs.length = 0) (hp : p ≤ 99999000 := by omega) :
    Calls Tryz.prog 94 #[.pointer (some ⟨g, 0, none⟩), v] w (RetK (fun z : BS p => cutV z.1.2.2.1 z.1.1.1 z.1.2.1.length) (fun z => ownF 65 z.1.1.1 z.1.2.1 :: .box g 152 [bv, .int .i64 ((z.1.2.2.2 : Nat) : Int)] :: K) w0) := by
  have o1 := (hn w hw.drop).one
  obtain rfl : xs = [] := List.eq_nil_of_length_eq_zero h1
  refine enterK (args := _) hw Tryz.func94 rfl Tryz.ntmps94 (by simp) ?_
  refine E.nl 65 (α := Sg) ?_
  repeat' (first | refine E.st ?_ | (refine E.apI (xs := ([] : List Sg)) (ys := ([] : List Sg)) (hs := by exact rdI) (hr := fun v5 h5 => ?_); simp only [List.nil_append]) | refine E.sk ?_ | refine E.q3 ?_ | refine E.q ?_ | refine E.qs ?_ | refine E.q2 ?_ | refine E.q4 ?_ | refine E.tr ?_ | refine E.ap (fun _ _ => ?_) | refine E.b1 (fun _ _ => ?_) | refine E.b0 (fun _ _ => ?_) | refine E.bsn (fun _ _ => ?_) | refine E.mk (fun _ _ => ?_) | refine E.bxO (fun _ => ?_) | refine E.al (fun _ => ?_) | refine E.sbO ?_ | refine E.dq ?_ | refine E.ct ?_ | refine E.cf ?_ | refine E.cs (fun hh => ?_) (fun hh => ?_) | refine E.at_block_other rfl ?_)
  all_goals first
    | exact r1K (α := BS p) ⟨(⟨v5, h5⟩, [], false, p), ⟨by simp, by simp⟩, fun h => (by cases h), by dsimp only; omega, by dsimp only; omega⟩ (hK := ksv)
    | (exfalso; simp at *; done)
    | trace_state
end E
end Go.Proofs.YtpiiapoafmnhhaaGreat
namespace Go.Proofs.YtpiiapoafmnhhaaGreat
namespace E
open Go Go.RowKit
set_option linter.unusedSimpArgs false
set_option linter.unusedVariables false
set_option maxHeartbeats 1000000
set_option maxRecDepth 10000
attribute [local irreducible] HC HL HQ HX HO At Y YV Opd Opds KnX Sl Ld Src GV RV Calls Code.wp eptr adr RdF ownF OneX HG LdC
theorem c_l5Page {g : Nat} {bv : Value} {bs : List UInt8} {p : Nat} {w0 : World} {K : List Ck} (w : World) (hw : KOk w0 (.box g 152 [bv, .int .i64 ((p : Nat) : Int)] :: K) w) (hb : RdIn w0 K bv bs := by exact rdI) (hp : p ≤ 99999900 := by omega) :
    Calls Tryz.prog 197 #[.pointer (some ⟨g, 0, none⟩)] w (RetK (fun z : Pg => .agg #[.int .i64 z.l, .int .i64 z.a]) (fun _ => .box g 152 [bv, .int .i64 ((p + 2 : Nat) : Int)] :: K) w0) := by
  refine enterK (args := _) hw Tryz.func197 rfl Tryz.ntmps197 (by simp) ?_
  repeat' (first | refine E.st ?_ | refine E.al (fun g2 => ?_) | refine E.ckq (h := fun w hw => c_pick w hw (n := 3)) (k := fun z1 => ?_) | refine E.ckq (h := fun w hw => c_pick w hw (n := 4)) (k := fun z2 => ?_) | refine E.q3 ?_ | refine E.q ?_ | refine E.qs ?_ | refine E.q2 ?_ | refine E.q4 ?_ | refine E.tr ?_ | refine E.ap (fun _ _ => ?_) | refine E.b1 (fun _ _ => ?_) | refine E.b0 (fun _ _ => ?_) | refine E.bsn (fun _ _ => ?_) | refine E.mk (fun _ _ => ?_) | refine E.bxO (fun _ => ?_) | refine E.al (fun _ => ?_) | refine E.sbO ?_ | refine E.dq ?_ | refine E.ct ?_ | refine E.cf ?_ | refine E.cs (fun hh => ?_) (fun hh => ?_) | refine E.at_block_other rfl ?_)
  exact r1K (α := Pg) ⟨_, _⟩ (hK := ksv)
theorem c_l5Pages {g : Nat} {bv : Value} {bs : List UInt8} {p : Nat} {w0 : World} {K : List Ck} (w : World) (hw : KOk w0 (.box g 152 [bv, .int .i64 ((p : Nat) : Int)] :: K) w) (hb : RdIn w0 K bv bs := by exact rdI) (hp : p ≤ 99999000 := by omega) :
    Calls Tryz.prog 159 #[.pointer (some ⟨g, 0, none⟩)] w (RetK (fun z : { z : V1 × List Pg × Nat // z.2.1.length ≤ 24 ∧ p ≤ z.2.2 ∧ z.2.2 ≤ p + 60 } => z.1.1.1) (fun z => ownF 63 z.1.1.1 z.1.2.1 :: .box g 152 [bv, .int .i64 ((z.1.2.2 : Nat) : Int)] :: K) w0) := by
  refine enterK (args := _) hw Tryz.func159 rfl Tryz.ntmps159 (by simp) ?_
  refine E.nl 63 (α := Pg) ?_
  repeat' (first | refine E.st ?_ | refine E.b0 (α := Pg) (fun v0 h0 => ?_) | refine E.ckq (h := fun w hw => c_pick w hw (n := 24)) (k := fun z1 => E.wy z1.2.1 (fun hz => ?_)) | refine E.q3 ?_ | refine E.q ?_ | refine E.qs ?_ | refine E.q2 ?_ | refine E.q4 ?_ | refine E.tr ?_ | refine E.ap (fun _ _ => ?_) | refine E.b1 (fun _ _ => ?_) | refine E.b0 (fun _ _ => ?_) | refine E.bsn (fun _ _ => ?_) | refine E.mk (fun _ _ => ?_) | refine E.bxO (fun _ => ?_) | refine E.al (fun _ => ?_) | refine E.sbO ?_ | refine E.dq ?_ | refine E.ct ?_ | refine E.cf ?_ | refine E.cs (fun hh => ?_) (fun hh => ?_) | refine E.at_block_other rfl ?_)
  refine lq (fun s : Nat × V1 × List Pg × Nat => s.1 ≤ 23 ∧ s.2.2.1.length + s.1 ≤ 24 ∧ p ≤ s.2.2.2 ∧ s.2.2.2 + 2 * s.1 ≤ p + 50) (fun s => [(3, .pl s.2.1.1), (4, .pl (.int .i64 (s.1 : Int)))]) (fun s => [ownF 63 s.2.1.1 s.2.2.1, .box g 152 [bv, .int .i64 ((s.2.2.2 : Nat) : Int)]]) (fun s => s.1) (z1.1, ⟨v0, h0⟩, [], p + 1) ⟨by dsimp only; omega, by dsimp only [List.length_nil]; omega, by dsimp only; omega, by dsimp only; omega⟩ (fun s hs => ?_)
  obtain ⟨i, ⟨v3, h3⟩, ys, q⟩ := s
  obtain ⟨hi, hy, hq1, hq2⟩ := hs
  dsimp only at hi hy hq1 hq2 h3 ⊢
  simp only [List.append_eq, List.nil_append, List.cons_append]
  rcases Nat.eq_zero_or_pos i with h0 | hpos
  · subst h0
    rcases Nat.eq_zero_or_pos ys.length with hyl | hyl
    · repeat' (first | refine E.st ?_ | refine E.sk ?_ | refine E.q3 ?_ | refine E.q ?_ | refine E.qs ?_ | refine E.q2 ?_ | refine E.q4 ?_ | refine E.tr ?_ | refine E.ap (fun _ _ => ?_) | refine E.b1 (fun _ _ => ?_) | refine E.b0 (fun _ _ => ?_) | refine E.bsn (fun _ _ => ?_) | refine E.mk (fun _ _ => ?_) | refine E.bxO (fun _ => ?_) | refine E.al (fun _ => ?_) | refine E.sbO ?_ | refine E.dq ?_ | refine E.ct ?_ | refine E.cf ?_ | refine E.cs (fun hh => ?_) (fun hh => ?_) | refine E.at_block_other rfl ?_)
      exact r1K (α := { z : V1 × List Pg × Nat // z.2.1.length ≤ 24 ∧ p ≤ z.2.2 ∧ z.2.2 ≤ p + 60 }) ⟨(⟨v3, h3⟩, ys, q), by dsimp only; omega, by dsimp only; omega, by dsimp only; omega⟩ (hK := ksv)
    · obtain ⟨⟨y0l, y0a⟩, hy0⟩ := get_lt hyl
      repeat' (first | refine E.st ?_ | refine E.ug ?_ | refine E.dxo v3 (i := 7) [0, 1, 4, 2, 3, 5, 6, 7, 8, 9] ?_ | refine E.ckq (h := fun w hw => c_pick w hw (n := 20)) (k := fun z2 => ?_) | refine E.ckq (h := fun w hw => c_num w hw (xs := [8, -1, 0])) (k := fun z3 => ?_) | refine E.ckq (h := fun w hw => c_num w hw (xs := [-1, 1000, 999])) (k := fun z4 => ?_) | refine E.q3 ?_ | refine E.q ?_ | refine E.qs ?_ | refine E.q2 ?_ | refine E.q4 ?_ | refine E.tr ?_ | refine E.ap (fun _ _ => ?_) | refine E.b1 (fun _ _ => ?_) | refine E.b0 (fun _ _ => ?_) | refine E.bsn (fun _ _ => ?_) | refine E.mk (fun _ _ => ?_) | refine E.bxO (fun _ => ?_) | refine E.al (fun _ => ?_) | refine E.sbO ?_ | refine E.dq ?_ | refine E.ct ?_ | refine E.cf ?_ | refine E.cs (fun hh => ?_) (fun hh => ?_) | refine E.at_block_other rfl ?_)
      all_goals first
        | exact r1K (α := { z : V1 × List Pg × Nat // z.2.1.length ≤ 24 ∧ p ≤ z.2.2 ∧ z.2.2 ≤ p + 60 }) ⟨(⟨v3, h3⟩, ys, q + 1), by dsimp only; omega, by dsimp only; omega, by dsimp only; omega⟩ (hK := ksv)
        | exact r1K (α := { z : V1 × List Pg × Nat // z.2.1.length ≤ 24 ∧ p ≤ z.2.2 ∧ z.2.2 ≤ p + 60 }) ⟨(⟨v3, h3⟩, ys.set 0 ⟨z3.1, z4.1⟩, q + 3), by dsimp only; rw [List.length_set]; omega, by dsimp only; omega, by dsimp only; omega⟩ (hK := ksv)
        | trace_state
  · repeat' (first | refine E.st ?_ | refine E.ckq (h := fun w hw => c_l5Page w hw) (k := fun z2 => ?_) | refine E.q3 ?_ | refine E.q ?_ | refine E.qs ?_ | refine E.q2 ?_ | refine E.q4 ?_ | refine E.tr ?_ | refine E.ap (fun _ _ => ?_) | refine E.b1 (fun _ _ => ?_) | refine E.b0 (fun _ _ => ?_) | refine E.bsn (fun _ _ => ?_) | refine E.mk (fun _ _ => ?_) | refine E.bxO (fun _ => ?_) | refine E.al (fun _ => ?_) | refine E.sbO ?_ | refine E.dq ?_ | refine E.ct ?_ | refine E.cf ?_ | refine E.cs (fun hh => ?_) (fun hh => ?_) | refine E.at_block_other rfl ?_)
    rename_i v9 h9
    exact rd (α := Nat × V1 × List Pg × Nat) (i - 1, ⟨v9, h9⟩, ys ++ [z2], q + 2) ⟨by dsimp only; omega, by dsimp only; rw [List.length_append, List.length_singleton]; omega, by dsimp only; omega, by dsimp only; omega⟩ (by dsimp only; omega) (hK := ksv)
/-- What is told of what is drawn to be at hand. -/
abbrev BPl (p : Nat) := { z : V1 × Pl × Nat // z.2.1.l.length ≤ 1000 ∧ p ≤ z.2.2 ∧ z.2.2 ≤ p + 80 }
theorem allF_len : ∀ (list : List Pg) (s : Pl × Int), (list.foldl allS s).1.l.length ≤ s.1.l.length + list.length
  | [], s => by simp
  | x :: list, s => by
    rw [List.foldl_cons]
    have h1 := allF_len list (allS s x)
    have h2 : (allS s x).1.l.length ≤ s.1.l.length + 1 := by
      show (List.take _ _).length ≤ _
      rw [List.length_take, List.length_cons]
      have := List.length_filter_le (fun y => !decide (y = x)) s.1.l
      omega
    rw [List.length_cons]
    omega
theorem pool_len (z : Int) (ys : List Pg) : (allP ⟨z, []⟩ ys).1.l.length ≤ ys.length := by
  have := allF_len ys (⟨z, []⟩, 0)
  simpa [allP] using this
theorem pn_of {z : Int} (h : z ∈ ([2, 3, 4, 1, 0, 6, 12] : List Int)) : PlN ⟨z, []⟩ := by
  simp only [List.mem_cons, List.mem_nil_iff, or_false] at h
  refine ⟨⟨?_, ?_, ?_⟩, trivial, List.nodup_nil⟩
  · dsimp only; omega
  · dsimp only; omega
  · simp
theorem c_l5Pool {g : Nat} {bv : Value} {bs : List UInt8} {p : Nat} {w0 : World} {K : List Ck} (w : World) (hw : KOk w0 (.box g 152 [bv, .int .i64 ((p : Nat) : Int)] :: K) w) (hb : RdIn w0 K bv bs := by exact rdI) (hp : p ≤ 99998000 := by omega) :
    Calls Tryz.prog 109 #[.pointer (some ⟨g, 0, none⟩)] w (RetK (fun z : BPl p => .agg #[.int .i64 z.1.2.1.z, z.1.1.1]) (fun z => ownF 63 z.1.1.1 z.1.2.1.l :: .box g 152 [bv, .int .i64 ((z.1.2.2 : Nat) : Int)] :: K) w0) := by
  refine enterK (args := _) hw Tryz.func109 rfl Tryz.ntmps109 (by simp) ?_
  refine E.nl 63 (α := Pg) ?_
  repeat' (first | refine E.st ?_ | refine E.al (fun g3 => ?_) | refine E.ckq (h := fun w hw => c_num w hw (xs := [2, 3, 4, 1, 0, 6, 12])) (k := fun zn => E.wy (pn_of zn.2) (fun hn => ?_)) | refine E.dxk [.box g3 68 [.int .i64 zn.1, .slice none 0 0]] 7 (i := 2) [0, 1, 2, 3, 4, 5, 6, 7] ?_ | refine E.qp ?_ | refine E.ckq (h := fun w hw => c_l5Pages w hw) (k := fun zp => E.wy zp.2.1 (fun h1 => E.wy zp.2.2.1 (fun h2 => E.wy zp.2.2.2 (fun h3 => E.wy zp.1.1.2 (fun h4 => ?_))))) | refine E.cm (h := fun w hw => c_l5AllN (z := zn.1) (xs := []) (ys := zp.1.2.1) w hn (by omega) (RdF.ofK hw) (RdF.ofK hw)) (k := fun za => E.wy za.2 (fun h5 => E.wy (pool_len zn.1 zp.1.2.1) (fun h6 => ?_))) | refine E.apD (fun v9 h9 => ?_) | refine E.ckq (h := fun w hw => c_pick w hw (n := 40)) (k := fun z2 => ?_) | refine E.ckq (h := fun w hw => c_num w hw (xs := [-1, 13, IntKind.i64.wrap (zn.1 - 1)]) (h0 := by simp)) (k := fun z3 => ?_) | refine E.q3 ?_ | refine E.q ?_ | refine E.qs ?_ | refine E.q2 ?_ | refine E.q4 ?_ | refine E.tr ?_ | refine E.ap (fun _ _ => ?_) | refine E.b1 (fun _ _ => ?_) | refine E.b0 (fun _ _ => ?_) | refine E.bsn (fun _ _ => ?_) | refine E.mk (fun _ _ => ?_) | refine E.bxO (fun _ => ?_) | refine E.al (fun _ => ?_) | refine E.sbO ?_ | refine E.dq ?_ | refine E.ct ?_ | refine E.cf ?_ | refine E.cs (fun hh => ?_) (fun hh => ?_) | refine E.at_block_other rfl ?_)
  all_goals first
    | exact r1K (α := BPl p) ⟨(⟨za.1, h5⟩, ⟨zn.1, (allP ⟨zn.1, []⟩ zp.1.2.1).1.l⟩, zp.1.2.2 + 1), by dsimp only; omega, by dsimp only; omega, by dsimp only; omega⟩ (hK := ksv)
    | exact r1K (α := BPl p) ⟨(⟨za.1, h5⟩, ⟨z3.1, (allP ⟨zn.1, []⟩ zp.1.2.1).1.l⟩, zp.1.2.2 + 2), by dsimp only; omega, by dsimp only; omega, by dsimp only; omega⟩ (hK := ksv)
    | exact r1K (α := BPl p) ⟨(⟨v9, h9⟩, ⟨zn.1, (allP ⟨zn.1, []⟩ zp.1.2.1).1.l ++ (allP ⟨zn.1, []⟩ zp.1.2.1).1.l⟩, zp.1.2.2 + 1), by dsimp only; rw [List.length_append]; omega, by dsimp only; omega, by dsimp only; omega⟩ (hK := ksv)
    | (rename_i v9 h9; exact r1K (α := BPl p) ⟨(⟨v9, h9⟩, ⟨zn.1, (allP ⟨zn.1, []⟩ zp.1.2.1).1.l ++ [⟨9, 0⟩]⟩, zp.1.2.2 + 1), by dsimp only; rw [List.length_append, List.length_singleton]; omega, by dsimp only; omega, by dsimp only; omega⟩ (hK := ksv))
    | trace_state
end E
end Go.Proofs.YtpiiapoafmnhhaaGreat
namespace Go.Proofs.YtpiiapoafmnhhaaGreat
namespace E
open Go Go.RowKit
set_option linter.unusedSimpArgs false
set_option linter.unusedVariables false
set_option maxHeartbeats 1000000
set_option maxRecDepth 10000
attribute [local irreducible] HC HL HQ HX HO At Y YV Opd Opds KnX Sl Ld Src GV RV Calls Code.wp eptr adr RdF ownF OneX HG LdC
theorem storeL_small {g : Gr} (h : g.ok) : (storeL g).length ≤ 1000 ∧ ∀ s ∈ storeL g, s.b.size ≤ 100000 := by
  refine ⟨by have := storeL_len g; omega, fun s hs => ?_⟩
  obtain ⟨h1, h2, h3⟩ := mem_storeL.1 hs
  have h4 := seg_small h h1
  rw [h3, bs_size]
  omega
theorem c_l1LabelD {g : Nat} {bv : Value} {bs : List UInt8} {p : Nat} {w0 : World} {K : List Ck} (w : World) (hw : KOk w0 (.box g 152 [bv, .int .i64 ((p : Nat) : Int)] :: K) w) (hb : RdIn w0 K bv bs := by exact rdI) (hp : p ≤ 999999990 := by omega) :
    Calls Tryz.prog 95 #[.pointer (some ⟨g, 0, none⟩)] w (RetK (fun z : Int => .int .i64 z) (fun _ => .box g 152 [bv, .int .i64 ((p + 2 : Nat) : Int)] :: K) w0) := by
  refine enterK (args := _) hw Tryz.func95 rfl Tryz.ntmps95 (by simp) ?_
  repeat' (first | refine E.st ?_ | refine E.ckq (h := fun w hw => c_pick w hw) (k := fun z => ?_) | refine E.ckq (h := fun w hw => c_num w hw (xs := [-1, 8, 9223372036854775807, -9223372036854775808])) (k := fun z => ?_) | refine E.q3 ?_ | refine E.q ?_ | refine E.qs ?_ | refine E.q2 ?_ | refine E.q4 ?_ | refine E.tr ?_ | refine E.ap (fun _ _ => ?_) | refine E.b1 (fun _ _ => ?_) | refine E.b0 (fun _ _ => ?_) | refine E.bsn (fun _ _ => ?_) | refine E.mk (fun _ _ => ?_) | refine E.bxO (fun _ => ?_) | refine E.al (fun _ => ?_) | refine E.sbO ?_ | refine E.dq ?_ | refine E.ct ?_ | refine E.cf ?_ | refine E.cs (fun hh => ?_) (fun hh => ?_) | refine E.at_block_other rfl ?_)
  · exact r1K _
  · exact r1K _
theorem c_l4Bent {g : Nat} {bv : Value} {bs : List UInt8} {p : Nat} {w0 : World} {K : List Ck} {v : Value} {xs : List Sg} (w : World) (hw : KOk w0 (.box g 152 [bv, .int .i64 ((p : Nat) : Int)] :: K) w) (hb : RdIn w0 K bv bs := by exact rdI) (hn : RdIn w0 K v xs := by exact rdI) (hl : xs.length ≤ 1000) (hs : ∀ s ∈ xs, s.b.size ≤ 100000) (hp : p ≤ 99999000 := by omega) :
    Calls Tryz.prog 94 #[.pointer (some ⟨g, 0, none⟩), v] w (RetK (fun z : BS p => cutV z.1.2.2.1 z.1.1.1 z.1.2.1.length) (fun z => ownF 65 z.1.1.1 z.1.2.1 :: .box g 152 [bv, .int .i64 ((z.1.2.2.2 : Nat) : Int)] :: K) w0) := by
  rcases Nat.eq_zero_or_pos xs.length with h1 | h1
  · exact c_l4Bent_0 w hw hb hn h1 hp
  · exact c_l4Bent_1 w hw hb hn h1 hl hs hp
/-- What is told of a drawn store and what is asked of it. -/
abbrev DS := { z : (V1 × List Sg × Bool) × Int × Qu // (z.1.2.1.length ≤ 1010 ∧ ∀ s ∈ z.1.2.1, s.b.size ≤ 100001) ∧ (z.1.2.2 = true → 0 < z.1.2.1.length) }
theorem c_DrawQueryPages {v : Value} {xs : List UInt8} (w : World) (hr : RdF w v xs := by exact rdA) : Calls Tryz.prog 31 #[v] w (Ret (fun z : DS => .tuple #[cutV z.1.1.2.2 z.1.1.1.1 z.1.1.2.1.length, .int .i64 z.1.2.1, .agg #[.int .i64 z.1.2.2.k, .int .i64 z.1.2.2.n.l, .int .i64 z.1.2.2.n.n]]) (fun z => [ownF 65 z.1.1.1.1 z.1.1.2.1]) w) := by
  have o1 := hr.one
  have hb := opv_rd hr
  refine enter (args := _) Tryz.func31 rfl Tryz.ntmps31 (by simp) ?_
  repeat' (first | refine E.st ?_ | refine E.al (fun g5 => ?_) | refine E.cm (h := fun w hw => c_l9Open w (hr.now hw)) (k := fun z => ?_) | refine E.ckq (h := fun w hw => c_l2Graph w hw) (k := fun z1 => E.wy z1.2.1 (fun h0 => E.wy (storeL_small z1.2.1) (fun h9 => E.wy z1.2.2.1 (fun h2 => E.wy z1.2.2.2 (fun h3 => E.wy z1.1.1.1.2 (fun h4 => E.wy z1.1.1.2.2 (fun h5 => ?_))))))) | refine E.cm (h := fun w hw => c_l4Store (g := z1.1.2.1) w h0 (RdF.ofK hw) (RdF.ofK hw)) (k := fun z2 => ?_) | refine E.ckq (h := fun w hw => c_pick w hw (n := 10)) (k := fun z3 => ?_) | refine E.ckq (h := fun w hw => c_l4Bent (xs := storeL z1.1.2.1) w hw (hl := h9.1) (hs := h9.2)) (k := fun z4 => E.wy z4.2 (fun h6 => E.wy (cut_one' (n := z4.1.2.1.length) (b := z4.1.2.2.1) z4.1.1.2) (fun h7 => ?_))) | refine E.ckq (h := fun w hw => c_l1LabelD w hw) (k := fun z5 => ?_) | refine E.ckq (h := fun w hw => c_l6Query w hw (ns := z1.1.2.1.ns)) (k := fun z6 => ?_) | refine E.q3 ?_ | refine E.q ?_ | refine E.qs ?_ | refine E.q2 ?_ | refine E.q4 ?_ | refine E.tr ?_ | refine E.ap (fun _ _ => ?_) | refine E.b1 (fun _ _ => ?_) | refine E.b0 (fun _ _ => ?_) | refine E.bsn (fun _ _ => ?_) | refine E.mk (fun _ _ => ?_) | refine E.bxO (fun _ => ?_) | refine E.al (fun _ => ?_) | refine E.sbO ?_ | refine E.dq ?_ | refine E.ct ?_ | refine E.cf ?_ | refine E.cs (fun hh => ?_) (fun hh => ?_) | refine E.at_block_other rfl ?_)
  all_goals first
    | exact rn (α := DS) ⟨((z4.1.1, z4.1.2.1, z4.1.2.2.1), z5, z6.1), h6.1, h6.2.1⟩ (hK := ksv)
    | exact rn (α := DS) ⟨((⟨.slice z2.a z2.n z2.c, rfl⟩, storeL z1.1.2.1, false), z5, z6.1), ⟨by have := h9.1; dsimp only; omega, fun s h => by have := h9.2 s h; omega⟩, fun h => (by cases h)⟩ (hK := ksv)
    | trace_state
/-- What is told of all that is drawn. -/
abbrev DR := { z : ((V1 × List Sg × Bool) × Int × Qu) × Sv × Pl // ((z.1.1.2.1.length ≤ 1010 ∧ ∀ s ∈ z.1.1.2.1, s.b.size ≤ 100001) ∧ (z.1.1.2.2 = true → 0 < z.1.1.2.1.length)) ∧ z.2.2.l.length ≤ 1000 }
theorem c_DrawQueryRun1 {v : Value} {xs : List UInt8} (w : World) (hr : RdF w v xs := by exact rdA) : Calls Tryz.prog 52 #[v] w (Ret (fun z : DS × BPl 0 => .tuple #[cutV z.1.1.1.2.2 z.1.1.1.1.1 z.1.1.1.2.1.length, .int .i64 z.1.1.2.1, .agg #[.int .i64 z.2.1.2.1.z, z.2.1.1.1], .agg #[.int .i64 z.1.1.2.2.k, .int .i64 z.1.1.2.2.n.l, .int .i64 z.1.1.2.2.n.n]]) (fun z => [ownF 63 z.2.1.1.1 z.2.1.2.1.l, ownF 65 z.1.1.1.1.1 z.1.1.1.2.1]) w) := by
  have o1 := hr.one
  have hb := opv_rd hr
  refine enter (args := _) Tryz.func52 rfl Tryz.ntmps52 (by simp) ?_
  repeat' (first | refine E.st ?_ | refine E.al (fun _ => ?_) | refine E.cm (h := fun w hw => c_l9Open w (hr.now hw)) (k := fun z => ?_) | refine E.ckq (h := fun w hw => c_l5Pool w hw) (k := fun z1 => E.wy z1.1.1.2 (fun h4 => ?_)) | refine E.q3 ?_ | refine E.q ?_ | refine E.qs ?_ | refine E.q2 ?_ | refine E.q4 ?_ | refine E.tr ?_ | refine E.ap (fun _ _ => ?_) | refine E.b1 (fun _ _ => ?_) | refine E.b0 (fun _ _ => ?_) | refine E.bsn (fun _ _ => ?_) | refine E.mk (fun _ _ => ?_) | refine E.bxO (fun _ => ?_) | refine E.al (fun _ => ?_) | refine E.sbO ?_ | refine E.dq ?_ | refine E.ct ?_ | refine E.cf ?_ | refine E.cs (fun hh => ?_) (fun hh => ?_) | refine E.at_block_other rfl ?_)
  rename_i ga gb gc
  repeat' (first | refine E.st ?_ | refine E.dxq2 ga gb (i := 4) [0, 1, 2, 3, 4, 5, 6, 7] ?_ | refine E.al (fun gd => ?_) | refine E.cm (h := fun w hw => c_DrawQueryPages w (hr.now hw)) (k := fun z2 => E.wy (cut_one' (n := z2.1.1.2.1.length) (b := z2.1.1.2.2) z2.1.1.1.2) (fun h7 => ?_)) | refine E.q3 ?_ | refine E.q ?_ | refine E.qs ?_ | refine E.q2 ?_ | refine E.q4 ?_ | refine E.tr ?_ | refine E.ap (fun _ _ => ?_) | refine E.b1 (fun _ _ => ?_) | refine E.b0 (fun _ _ => ?_) | refine E.bsn (fun _ _ => ?_) | refine E.mk (fun _ _ => ?_) | refine E.bxO (fun _ => ?_) | refine E.al (fun _ => ?_) | refine E.sbO ?_ | refine E.dq ?_ | refine E.ct ?_ | refine E.cf ?_ | refine E.cs (fun hh => ?_) (fun hh => ?_) | refine E.at_block_other rfl ?_)
  all_goals first
    | exact rn (α := DS × BPl 0) (z2, z1) (hK := ksv)
    | trace_state
theorem c_DrawQueryRun {v : Value} {xs : List UInt8} (w : World) (hr : RdF w v xs := by exact rdA) : Calls Tryz.prog 52 #[v] w (Ret (fun z : DR => .tuple #[cutV z.1.1.1.2.2 z.1.1.1.1.1 z.1.1.1.2.1.length, .int .i64 z.1.1.2.1, .agg #[.int .i64 z.1.2.2.z, .slice z.1.2.1.a z.1.2.1.n z.1.2.1.c], .agg #[.int .i64 z.1.1.2.2.k, .int .i64 z.1.1.2.2.n.l, .int .i64 z.1.1.2.2.n.n]]) (fun z => [ownF 63 (.slice z.1.2.1.a z.1.2.1.n z.1.2.1.c) z.1.2.2.l, ownF 65 z.1.1.1.1.1 z.1.1.1.2.1]) w) := (c_DrawQueryRun1 w hr).mono fun en w' ⟨y, he, hk⟩ => by
  obtain ⟨⟨D, hD⟩, ⟨⟨⟨v, hv⟩, P, q⟩, hP⟩⟩ := y
  obtain ⟨s, rfl⟩ := ownF_sv (List.mem_cons_self) hk
  exact ⟨⟨(D, s, P), hD, hP.1⟩, he, hk⟩
end E
end Go.Proofs.YtpiiapoafmnhhaaGreat
namespace Go.Proofs.YtpiiapoafmnhhaaGreat
namespace E
open Go
set_option linter.unusedVariables false
theorem und_reflB {a : Int} (h : lok a = true) : und a a = true := by
  have hh : ∀ a ∈ labs, und a a = true := by decide +kernel
  exact hh a (mem_labs.2 (lok_iff.1 h))
theorem lun_topB {a : Int} (h : lok a = true) : lun a 7 = true := by
  have hh : ∀ a ∈ labs, lun a 7 = true := by decide +kernel
  exact hh a (mem_labs.2 (lok_iff.1 h))
theorem view_topB {g : Gr} (h : g.ok) : view g 7 = g := by
  obtain ⟨ns, es⟩ := g
  simp only [view, Gr.mk.injEq, List.filter_eq_self]
  exact ⟨fun x hx => lun_topB (nok_lok (h.1.1 x hx)), fun e he => lun_topB (eok_parts (h.2.1 e he).1).1⟩
theorem runQ_c {xs : List Sg} {c : Int} {p : Pl} {q : Qu} : (∃ g0, readL xs = some g0 ∧ lok c = true ∧ qok q = true ∧ PlOk p) ∨ runQ xs c p q = ([], ⟨0, []⟩, 0) := by
  by_cases h : goodQ xs c p q
  · exact Or.inl h
  · exact Or.inr (runQ_n h)
/-- More room. -/
theorem run_room {xs : List Sg} {c : Int} {q : Qu} {k : Nat} (hk : k ≤ 11) :
    (runQ xs c ⟨(k : Int), []⟩ q).1 = (runQ xs c ⟨(k : Int) + 1, []⟩ q).1 ∧ (runQ xs c ⟨(k : Int) + 1, []⟩ q).2.2 ≤ (runQ xs c ⟨(k : Int), []⟩ q).2.2 ∧ (runQ xs c ⟨(k : Int), []⟩ q).2.1.l.length ≤ (runQ xs c ⟨(k : Int) + 1, []⟩ q).2.1.l.length := by
  have p1 : PlOk ⟨(k : Int), []⟩ := ⟨⟨by dsimp only; omega, by dsimp only; omega, by simp⟩, by simp, by simp⟩
  have p2 : PlOk ⟨(k : Int) + 1, []⟩ := ⟨⟨by dsimp only; omega, by dsimp only; omega, by simp; omega⟩, by simp, by simp⟩
  by_cases h : ∃ g0, readL xs = some g0 ∧ lok c = true ∧ qok q = true
  · obtain ⟨g0, e, hc, hq⟩ := h
    rw [runQ_y e hc hq p1, runQ_y e hc hq p2]
    obtain ⟨a, b⟩ := room_all (k := k) (pagesL (view g0 c) q) (⟨(k : Int), []⟩, 0) (⟨(k : Int) + 1, []⟩, 0) rfl rfl (by simp) (by simp) (Int.le_refl _)
    refine ⟨rfl, b, ?_⟩
    show (List.foldl allS _ _).1.l.length ≤ (List.foldl allS _ _).1.l.length
    rw [a]
    exact List.length_take_le' _ _
  · rw [runQ_n (fun h' => h (by obtain ⟨g0, a, b, d, _⟩ := h'; exact ⟨g0, a, b, d⟩)), runQ_n (fun h' => h (by obtain ⟨g0, a, b, d, _⟩ := h'; exact ⟨g0, a, b, d⟩))]
    exact ⟨rfl, Int.le_refl _, Nat.le_refl _⟩
theorem use_mono {p : Pl} {x : Pg} (hp : PlOk p) (hx : pgok x = true) : p.l.length ≤ (useP p x).l.length := by
  have hw := len_without (x := x) hp.2.2
  have h1 := hp.1
  show _ ≤ (List.take _ _).length
  rw [List.length_take, List.length_cons]
  split at hw <;> omega
theorem all_mono : ∀ (l : List Pg) (s : Pl × Int), PlOk s.1 → (∀ x ∈ l, pgok x = true) → s.1.l.length ≤ (l.foldl allS s).1.l.length
  | [], _, _, _ => Nat.le_refl _
  | x :: l, s, h, hl => by
    rw [List.foldl_cons]
    have h1 := use_mono h (hl x List.mem_cons_self)
    have h2 := all_mono l (allS s x) (h.use (hl x List.mem_cons_self)) (fun y hy => hl y (List.mem_cons_of_mem _ hy))
    have h3 : (allS s x).1 = useP s.1 x := rfl
    rw [h3] at h2
    omega
theorem unl_zero (l : List Pg) : unl (l.take 0) = 0 := by simp [unl, unlR]
theorem unl_le (l : List Pg) : ∀ k, unl (l.take k) ≤ k
  | 0 => by rw [unl_zero]; exact Nat.le_refl _
  | k + 1 => by
    have ih := unl_le l k
    rcases Nat.lt_or_ge k l.length with h | h
    · obtain ⟨x, hx⟩ : ∃ x, l[k]? = some x := ⟨_, List.getElem?_eq_getElem h⟩
      have := unl_step hx
      split at this <;> omega
    · rw [List.take_of_length_le (by omega)]
      rw [List.take_of_length_le h] at ih
      omega
theorem unl_hits {l : List Pg} {z : Nat} (h : z ≤ unl l) : ∃ k, k ≤ l.length ∧ unl (l.take k) = z := by
  have key : ∀ n, n ≤ l.length → z ≤ unl (l.take n) → ∃ k, k ≤ l.length ∧ unl (l.take k) = z := by
    intro n
    induction n with
    | zero => intro hn hz; exact ⟨0, hn, by rw [unl_zero] at hz ⊢; omega⟩
    | succ n ih =>
      intro hn hz
      obtain ⟨x, hx⟩ : ∃ x, l[n]? = some x := ⟨_, List.getElem?_eq_getElem (by omega)⟩
      have hst := unl_step hx
      by_cases h2 : z ≤ unl (l.take n)
      · exact ih (by omega) h2
      · refine ⟨n + 1, hn, ?_⟩
        split at hst <;> omega
  exact key l.length (Nat.le_refl _) (by rw [List.take_length]; exact h)
theorem all_full {p : Pl} {l : List Pg} (hp : PlOk p) (hl : ∀ x ∈ l, pgok x = true) (hu : p.z < (unl l : Int)) : ((allP p l).1.l.length : Int) = p.z := by
  have hz := hp.1.1
  obtain ⟨k, hk, hk2⟩ := unl_hits (l := l) (z := p.z.toNat) (by omega)
  obtain ⟨A, B, h1, h2, _, _⟩ := recent (p := p) (l := l.take k) hz (by rw [hk2]; omega) k (by rw [List.length_take]; omega)
  rw [List.take_take, Nat.min_self] at h1 h2
  have h3 : p.z.toNat ≤ (allP p (l.take k)).1.l.length := by rw [h1, List.length_append, h2, hk2]; omega
  have h4 := all_mono (l.drop k) (allP p (l.take k)) (hp.all (fun x hx => hl x (List.mem_of_mem_take hx))) (fun x hx => hl x (List.mem_of_mem_drop hx))
  have h5 : (l.drop k).foldl allS (allP p (l.take k)) = allP p l := by
    unfold allP
    rw [← List.foldl_append, List.take_append_drop]
  rw [h5] at h4
  have h6 := (hp.all (list := l) hl).1.2.2
  rw [allP_z] at h6
  omega
/-- Asked twice. -/
theorem run_twice {xs : List Sg} {c : Int} {p : Pl} {q : Qu} (hp : PlOk p) (hne : pagesQ xs c q ≠ []) :
    (runQ xs c (runQ xs c p q).2.1 q).1 = (runQ xs c p q).1 ∧ (p.z < (unl (pagesQ xs c q) : Int) ∨ (runQ xs c (runQ xs c p q).2.1 q).2.2 = 0) ∧ (runQ xs c (runQ xs c p q).2.1 q).2.1.l.length = (runQ xs c p q).2.1.l.length ∧ (runQ xs c p q).2.2 ≤ (pagesQ xs c q).length := by
  by_cases h : ∃ g0, readL xs = some g0 ∧ lok c = true ∧ qok q = true
  · obtain ⟨g0, e, hc, hq⟩ := h
    have hgv := (readL_some e).1.view (c := c)
    have hpg : ∀ x ∈ pagesL (view g0 c) q, pgok x = true := fun x hx => (pages_in hgv hx).1
    rw [runQ_y e hc hq hp, pagesQ_yes e hc hq]
    dsimp only
    have hp2 := hp.all hpg
    rw [runQ_y e hc hq hp2]
    dsimp only
    have hz := hp.1.1
    have hn := (allP_n p (pagesL (view g0 c) q)).2
    refine ⟨rfl, ?_, ?_, hn⟩
    · by_cases hu : (unl (pagesL (view g0 c) q) : Int) ≤ p.z
      · exact Or.inr (all_hit _ _ 0 hp2 (all_there hz hu)).1
      · exact Or.inl (by omega)
    · by_cases hu : (unl (pagesL (view g0 c) q) : Int) ≤ p.z
      · exact (all_hit _ _ 0 hp2 (all_there hz hu)).2.1
      · have h1 := all_full hp hpg (by omega)
        have h2 := all_full hp2 hpg (by rw [allP_z]; omega)
        rw [allP_z] at h2
        omega
  · exact absurd (pagesQ_no h) hne
theorem view_self {g : Gr} {c : Int} (hc : lok c = true) : view (view g c) c = view g c := view_view (lun_iff.2 ⟨hc, hc, und_reflB hc⟩)
/-- What is not seen bears on nothing. -/
theorem run_blind {xs : List Sg} {g0 : Gr} (e : readL xs = some g0) (c : Int) (p : Pl) (q : Qu) : runQ (viewS xs c) c p q = runQ xs c p q ∧ pagesQ (viewS xs c) c q = pagesQ xs c q := by
  have e2 := read_view (c := c) e
  constructor
  · by_cases h : lok c = true ∧ qok q = true ∧ PlOk p
    · obtain ⟨hc, hq, hp⟩ := h
      rw [runQ_y e hc hq hp, runQ_y e2 hc hq hp, view_self hc]
    · rw [runQ_n (fun h' => h (by obtain ⟨_, _, b⟩ := h'; exact b)), runQ_n (fun h' => h (by obtain ⟨_, _, b⟩ := h'; exact b))]
  · by_cases h : lok c = true ∧ qok q = true
    · obtain ⟨hc, hq⟩ := h
      rw [pagesQ_yes e hc hq, pagesQ_yes e2 hc hq, view_self hc]
    · rw [pagesQ_no (fun h' => h (by obtain ⟨_, _, b⟩ := h'; exact b)), pagesQ_no (fun h' => h (by obtain ⟨_, _, b⟩ := h'; exact b))]
/-- Only what is seen is read. -/
theorem run_pages {xs : List Sg} {c : Int} {q : Qu} : (∀ x ∈ pagesQ xs c q, pgok x = true ∧ lun x.l c = true ∧ ∃ s ∈ xs, s.l = x.l ∧ x.a * 8 < (s.b.size : Int)) ∧ (pagesQ xs c q = [] ∨ ((runQ xs c ⟨12, []⟩ q).2 = allP ⟨12, []⟩ (pagesQ xs c q) ∧ 1 ≤ (runQ xs c ⟨12, []⟩ q).2.2)) := by
  by_cases h : ∃ g0, readL xs = some g0 ∧ lok c = true ∧ qok q = true
  · obtain ⟨g0, e, hc, hq⟩ := h
    have hgv := (readL_some e).1.view (c := c)
    have hst := (readL_some e).2.1
    have hp : PlOk ⟨12, []⟩ := ⟨⟨by decide, by decide, by simp⟩, by simp, by simp⟩
    rw [pagesQ_yes e hc hq, runQ_y e hc hq hp]
    refine ⟨fun x hx => ?_, ?_⟩
    · obtain ⟨a, s, hs, e1, e2⟩ := pages_in hgv hx
      rw [store_view, hst] at hs
      obtain ⟨m1, m2⟩ := List.mem_filter.1 hs
      rw [bn_len] at e2
      exact ⟨a, by rw [← e1]; exact m2, s, m1, e1, e2⟩
    · by_cases hn : pagesL (view g0 c) q = []
      · exact Or.inl hn
      · exact Or.inr ⟨rfl, all_first hn⟩
  · rw [pagesQ_no h]
    exact ⟨fun x hx => (by cases hx), Or.inl rfl⟩
/-- Every segment that is seen is looked into. -/
theorem run_head {xs : List Sg} {g0 : Gr} {c : Int} {q : Qu} (e : readL xs = some g0) (hc : lok c = true) (hq : qok q = true) : (∀ s ∈ viewS xs c, (⟨s.l, 0⟩ : Pg) ∈ pagesQ xs c q) ∧ ((pagesQ xs c q).length = 0 ↔ (viewS xs c).length = 0) := by
  have hgv := (readL_some e).1.view (c := c)
  have hst := (readL_some e).2.1
  have h1 : ∀ s ∈ viewS xs c, (⟨s.l, 0⟩ : Pg) ∈ pagesQ xs c q := fun s hs => by
    rw [pagesQ_yes e hc hq]
    exact pages_head hgv (by rw [store_view, hst]; exact hs)
  refine ⟨h1, ?_, ?_⟩
  · intro h
    rcases hx : viewS xs c with _ | ⟨s, ss⟩
    · rfl
    · have := h1 s (by rw [hx]; exact List.mem_cons_self)
      rw [List.eq_nil_of_length_eq_zero h] at this
      cases this
  · intro h
    rw [pagesQ_yes e hc hq, pages_nil (by rw [store_view, hst]; exact List.eq_nil_of_length_eq_zero h)]
    rfl
/-- One who sees all. -/
theorem run_wide {g : Gr} {q : Qu} (hg : g.ok) (hq : qok q = true) : (runQ (storeL g) 7 ⟨0, []⟩ q).1 = askL g q ∧ (runQ (storeL g) 7 ⟨0, []⟩ q).2.2 = (pagesQ (storeL g) 7 q).length := by
  have e := readL_store hg
  have hc : lok 7 = true := by decide
  have hp : PlOk ⟨0, []⟩ := ⟨⟨by decide, by decide, by simp⟩, by simp, by simp⟩
  rw [runQ_y e hc hq hp, pagesQ_yes e hc hq, view_topB hg]
  refine ⟨rfl, ?_⟩
  unfold allP
  rw [all_none]
  simp
theorem nodup_sub_len {α : Type} [DecidableEq α] : ∀ {a b : List α}, a.Nodup → (∀ x ∈ a, x ∈ b) → a.length ≤ b.length
  | [], _, _, _ => Nat.zero_le _
  | x :: a, b, hn, hs => by
    have h1 := hs x List.mem_cons_self
    have h2 := nodup_sub_len (a := a) (b := b.erase x) (List.nodup_cons.1 hn).2 (fun y hy => (List.mem_erase_of_ne (fun e => (List.nodup_cons.1 hn).1 (by rw [← e]; exact hy))).2 (hs y (List.mem_cons_of_mem _ hy)))
    rw [List.length_erase_of_mem h1] at h2
    have := List.length_pos_of_mem h1
    rw [List.length_cons]
    omega
theorem flat_filter_len {α β : Type} (f : α → List β) (p : α → Bool) : ∀ xs : List α, ((xs.filter p).flatMap f).length ≤ (xs.flatMap f).length
  | [] => Nat.le_refl _
  | x :: xs => by
    have := flat_filter_len f p xs
    rw [List.filter_cons]
    split
    · rw [List.flatMap_cons, List.flatMap_cons, List.length_append, List.length_append]; omega
    · rw [List.flatMap_cons, List.length_append]; omega
theorem near_view {g : Gr} {c : Int} {n y : Nd} (h : y ∈ nearL (view g c).es n) : y ∈ nearL g.es n := by
  obtain ⟨e, he, ho⟩ := mem_nearL.1 h
  exact mem_nearL.2 ⟨e, (List.mem_filter.1 he).1, ho⟩
/-- Who sees less. -/
theorem run_less {g : Gr} {c k : Int} {n : Nd} (hg : g.ok) (hk : k = 1) : (∀ y ∈ askL (view g c) ⟨k, n⟩, y ∈ askL g ⟨k, n⟩) ∧ (askL (view g c) ⟨k, n⟩).length ≤ (askL g ⟨k, n⟩).length ∧ (pagesQ (storeL g) c ⟨k, n⟩).length ≤ (pagesQ (storeL g) 7 ⟨k, n⟩).length := by
  subst hk
  have hv := hg.view (c := c)
  by_cases hq : qok ⟨1, n⟩ = true
  · have e1 : askL (view g c) ⟨1, n⟩ = (nearL (view g c).es n).map cd := by unfold askL; rw [if_pos ⟨hv, hq⟩]; rfl
    have e2 : askL g ⟨1, n⟩ = (nearL g.es n).map cd := by unfold askL; rw [if_pos ⟨hg, hq⟩]; rfl
    have ho := ord_nearL (n := n) (fun e he => (hv.2.1 e he).1)
    have hnd : (nearL (view g c).es n).Nodup := List.Pairwise.imp (fun {a b} (h : cd a < cd b) e => by subst e; omega) ho.2
    refine ⟨fun y hy => ?_, ?_, ?_⟩
    · rw [e1] at hy
      rw [e2]
      obtain ⟨x, hx, rfl⟩ := List.mem_map.1 hy
      exact List.mem_map.2 ⟨x, near_view hx, rfl⟩
    · rw [e1, e2, List.length_map, List.length_map]
      exact nodup_sub_len hnd (fun x hx => near_view hx)
    · by_cases hc : lok c = true
      · rw [pagesQ_yes (readL_store hg) hc hq, pagesQ_yes (readL_store hg) (show lok 7 = true by decide) hq, view_topB hg]
        unfold pagesL pagesS
        have eo : ∀ g', orderL g' ⟨1, n⟩ = [n] := fun g' => if_pos rfl
        rw [eo, eo, store_view]
        simp only [List.flatMap_cons, List.flatMap_nil, List.append_nil, List.length_append]
        have h1 := flat_filter_len (fun s : Sg => spanL s.l 0 (hdS s)) (fun s => lun s.l c) (storeL g)
        have h2 := flat_filter_len (fun s : Sg => spanL s.l (rowS s (cd n)).1 (rowS s (cd n)).2) (fun s => lun s.l c) (storeL g)
        exact Nat.add_le_add h1 h2
      · rw [pagesQ_no (fun h => hc (by obtain ⟨_, _, b, _⟩ := h; exact b))]
        exact Nat.zero_le _
  · have e : ∀ g', askL g' ⟨1, n⟩ = [] := fun g' => if_neg (fun h => hq h.2)
    rw [e, e]
    refine ⟨fun y hy => hy, Nat.le_refl _, ?_⟩
    rw [pagesQ_no (fun h => hq (by obtain ⟨_, _, _, b⟩ := h; exact b))]
    exact Nat.zero_le _
theorem pagesQ_lenB (xs : List Sg) (c : Int) (q : Qu) : (pagesQ xs c q).length ≤ 1000000 := by
  by_cases h : ∃ g0, readL xs = some g0 ∧ lok c = true ∧ qok q = true
  · obtain ⟨g0, e1, hc, hq⟩ := h
    rw [pagesQ_yes e1 hc hq]
    exact pagesL_len (readL_some e1).1.view q
  · rw [pagesQ_no h]; simp
end E
end Go.Proofs.YtpiiapoafmnhhaaGreat
namespace Go.Proofs.YtpiiapoafmnhhaaGreat
namespace E
open Go Go.RowKit
set_option linter.unusedSimpArgs false
set_option linter.unusedVariables false
set_option maxHeartbeats 1000000
set_option maxRecDepth 10000
attribute [local irreducible] HC HL HQ HX HO At Y YV Opd Opds KnX Sl Ld Src GV RV Calls Code.wp eptr adr RdF ownF OneX HG LdC
theorem ask_lenQ (g : Gr) (q : Qu) : (askL g q).length ≤ 1000 := by
  unfold askL
  split
  · rename_i h
    have hn := h.1.1.len
    have he := h.1.2.len
    have h1 := near_len g.es q.n
    unfold askG
    split
    · simp; omega
    · split
      · by_cases hm : q.n ∈ g.ns
        · rw [distL_len h.1 hm]; omega
        · unfold distL; rw [if_neg hm]; simp
      · split
        · rw [coreL_len]; omega
        · simp
  · simp
theorem c_i_AskQ {v u : Value} {g : Gr} {k l n : Int} (w : World) (hr : RdF w v g.ns := by exact rdA) (hq : RdF w u g.es := by exact rdA) :
    Calls Tryz.prog 25 #[.agg #[v, u], .agg #[.int .i64 k, .int .i64 l, .int .i64 n]] w (Ret (fun z : V1 => z.1) (fun z => [ownF 3 z.1 (askL g ⟨k, ⟨l, n⟩⟩)]) w) := c_i_QueryAsk graphNear (near_of graphNear) w hr hq
end E
end Go.Proofs.YtpiiapoafmnhhaaGreat
namespace Go.Proofs.YtpiiapoafmnhhaaGreat
namespace E
open Go Go.RowKit
set_option linter.unusedSimpArgs false
set_option linter.unusedVariables false
set_option maxHeartbeats 1000000
set_option maxRecDepth 10000
attribute [local irreducible] HC HL HQ HX HO At Y YV Opd Opds KnX Sl Ld Src GV RV Calls Code.wp eptr adr RdF ownF OneX HG LdC
theorem c_wpIntsQ {v u : Value} {xs : List Int} (w : World) (hl : xs.length ≤ 1000000) (hr : RdF w v xs := by exact rdA) (hq : RdF w u xs := by exact rdA) : Calls Tryz.prog 26 #[v, u] w (Ret (fun _ : Unit => .bool true) (fun _ => []) w) := by
  have o1 := hr.one
  have o2 := hq.one
  refine enter (args := _) Tryz.func26 rfl Tryz.ntmps26 (by simp) ?_
  repeat' (first | refine E.st ?_ | refine E.q3 ?_ | refine E.q ?_ | refine E.qs ?_ | refine E.q2 ?_ | refine E.q4 ?_ | refine E.tr ?_ | refine E.ap (fun _ _ => ?_) | refine E.b1 (fun _ _ => ?_) | refine E.b0 (fun _ _ => ?_) | refine E.bsn (fun _ _ => ?_) | refine E.mk (fun _ _ => ?_) | refine E.bxO (fun _ => ?_) | refine E.al (fun _ => ?_) | refine E.sbO ?_ | refine E.dq ?_ | refine E.ct ?_ | refine E.cf ?_ | refine E.cs (fun hh => ?_) (fun hh => ?_) | refine E.at_block_other rfl ?_)
  all_goals try (exfalso; omega)
  refine lq (fun k : Nat => k ≤ xs.length) (fun k => [(5, .pl (.int .i64 (k : Int)))]) (fun _ => []) (fun k => xs.length - k) 0 (Nat.zero_le _) (fun k hk => ?_)
  rcases Nat.lt_or_ge k xs.length with hlt | hge
  · obtain ⟨x, hx⟩ := get_lt hlt
    repeat' (first | refine E.st ?_ | refine E.q3 ?_ | refine E.q ?_ | refine E.qs ?_ | refine E.q2 ?_ | refine E.q4 ?_ | refine E.tr ?_ | refine E.ap (fun _ _ => ?_) | refine E.b1 (fun _ _ => ?_) | refine E.b0 (fun _ _ => ?_) | refine E.bsn (fun _ _ => ?_) | refine E.mk (fun _ _ => ?_) | refine E.bxO (fun _ => ?_) | refine E.al (fun _ => ?_) | refine E.sbO ?_ | refine E.dq ?_ | refine E.ct ?_ | refine E.cf ?_ | refine E.cs (fun hh => ?_) (fun hh => ?_) | refine E.at_block_other rfl ?_)
    all_goals first
      | exact rd (k + 1) hlt
      | (exfalso; simp_all; done)
  · repeat' (first | refine E.st ?_ | refine E.q3 ?_ | refine E.q ?_ | refine E.qs ?_ | refine E.q2 ?_ | refine E.q4 ?_ | refine E.tr ?_ | refine E.ap (fun _ _ => ?_) | refine E.b1 (fun _ _ => ?_) | refine E.b0 (fun _ _ => ?_) | refine E.bsn (fun _ _ => ?_) | refine E.mk (fun _ _ => ?_) | refine E.bxO (fun _ => ?_) | refine E.al (fun _ => ?_) | refine E.sbO ?_ | refine E.dq ?_ | refine E.ct ?_ | refine E.cf ?_ | refine E.cs (fun hh => ?_) (fun hh => ?_) | refine E.at_block_other rfl ?_)
    exact rb
theorem ks_behQ {L K : List Ck} : KSub (L ++ K) K := KSub.ofPerm2 _ _ L List.perm_append_comm
theorem ks_behQ2 {L M K : List Ck} : KSub (L ++ (M ++ K)) K := by rw [← List.append_assoc]; exact ks_behQ
theorem pg_eqB {x y : Pg} (h : [x.l, x.a] = [y.l, y.a]) : x = y := by
  obtain ⟨_, _⟩ := x
  obtain ⟨_, _⟩ := y
  simp_all
theorem c_equalPgB {v u : Value} {xs ys : List Pg} (w : World) (hr : RdF w v xs := by exact rdA) (hq : RdF w u ys := by exact rdA) : Calls Tryz.prog 104 #[v, u] w (Ret (fun _ : Unit => .bool (decide (xs = ys))) (fun _ => []) w) := by
  have m1 := hr.le
  have m2 := hq.le
  simp only [maxLen] at m1 m2
  refine enter (args := _) Tryz.func104 rfl Tryz.ntmps104 (by simp) ?_
  repeat' (first | refine E.st ?_ | refine E.q ?_ | refine E.qs ?_ | refine E.q2 ?_ | refine E.tr ?_ | refine E.ap (fun _ _ => ?_) | refine E.b1 (fun _ _ => ?_) | refine E.b0 (fun _ _ => ?_) | refine E.bsn (fun _ _ => ?_) | refine E.mk (fun _ _ => ?_) | refine E.bx (fun _ => ?_) | refine E.al (fun _ => ?_) | refine E.sb ?_ | refine E.dq ?_ | refine E.ct ?_ | refine E.cf ?_ | refine E.cs (fun hh => ?_) (fun hh => ?_) | refine E.at_block_other rfl ?_)
  · exact rb (eq_len (by omega))
  refine lq (fun k : Nat => k ≤ xs.length ∧ xs.take k = ys.take k) (fun k => [(13, .pl (.int .i64 (k : Int)))]) (fun k => []) (fun k => xs.length - k) 0 ⟨Nat.zero_le _, rfl⟩ (fun k hk0 => ?_)
  obtain ⟨hk1, hk2⟩ := hk0
  rcases Nat.lt_or_ge k xs.length with hlt | hge
  · obtain ⟨x, hx⟩ := get_lt hlt
    obtain ⟨y, hy⟩ := get_lt (xs := ys) (k := k) (by omega)
    repeat' (first | refine E.st ?_ | refine E.q ?_ | refine E.qs ?_ | refine E.q2 ?_ | refine E.tr ?_ | refine E.ap (fun _ _ => ?_) | refine E.b1 (fun _ _ => ?_) | refine E.b0 (fun _ _ => ?_) | refine E.bsn (fun _ _ => ?_) | refine E.mk (fun _ _ => ?_) | refine E.bx (fun _ => ?_) | refine E.al (fun _ => ?_) | refine E.sb ?_ | refine E.dq ?_ | refine E.ct ?_ | refine E.cf ?_ | refine E.cs (fun hh => ?_) (fun hh => ?_) | refine E.at_block_other rfl ?_)
    · exact rb (eq_no hx hy (by rintro rfl; exact hh rfl))
    · exact rd (k + 1) ⟨by omega, eq_st hk2 hx hy (by first | exact pg_eqB hh | exact pg_eqB (Decidable.not_not.1 hh))⟩
  · repeat' (first | refine E.st ?_ | refine E.q ?_ | refine E.qs ?_ | refine E.q2 ?_ | refine E.tr ?_ | refine E.ap (fun _ _ => ?_) | refine E.b1 (fun _ _ => ?_) | refine E.b0 (fun _ _ => ?_) | refine E.bsn (fun _ _ => ?_) | refine E.mk (fun _ _ => ?_) | refine E.bx (fun _ => ?_) | refine E.al (fun _ => ?_) | refine E.sb ?_ | refine E.dq ?_ | refine E.ct ?_ | refine E.cf ?_ | refine E.cs (fun hh => ?_) (fun hh => ?_) | refine E.at_block_other rfl ?_)
    exact rb (eq_all hk2 (by omega) (by omega))
theorem c_i_PoolSameB {z z' : Int} {A A' : Option Addr} {n m n' m' : Nat} {xs ys : List Pg} (w : World) (hr : RdF w (.slice A n m) xs := by exact rdA) (hq : RdF w (.slice A' n' m') ys := by exact rdA) :
    Calls Tryz.prog 41 #[.agg #[.int .i64 z, .slice A n m], .agg #[.int .i64 z', .slice A' n' m']] w (Ret (fun _ : Unit => .bool (decide ((⟨z, xs⟩ : Pl) = ⟨z', ys⟩))) (fun _ => []) w) := by
  have m1 := hr.le
  have m2 := hq.le
  simp only [maxLen] at m1 m2
  refine enter (args := _) Tryz.func41 rfl Tryz.ntmps41 (by simp) ?_
  repeat' (first | refine E.st ?_ | refine E.cl (h := fun _ w _ => c_equalPgB w) (k := ?_)  | refine E.q ?_ | refine E.qs ?_ | refine E.q2 ?_ | refine E.tr ?_ | refine E.ap (fun _ _ => ?_) | refine E.b1 (fun _ _ => ?_) | refine E.b0 (fun _ _ => ?_) | refine E.bsn (fun _ _ => ?_) | refine E.mk (fun _ _ => ?_) | refine E.bx (fun _ => ?_) | refine E.al (fun _ => ?_) | refine E.sb ?_ | refine E.dq ?_ | refine E.ct ?_ | refine E.cf ?_ | refine E.cs (fun hh => ?_) (fun hh => ?_) | refine E.at_block_other rfl ?_)
  all_goals (refine rb ?_; simp_all)
theorem cutS_small (b : Bool) {ys : List Sg} (h : ys.length ≤ 1010 ∧ ∀ s ∈ ys, s.b.size ≤ 100001) : (cutS b ys).length ≤ 2000000 ∧ ∀ s ∈ cutS b ys, s.b.size ≤ 4000000 := by
  unfold cutS
  split
  · exact ⟨by rw [List.length_drop]; omega, fun s hs => by have := h.2 s (List.mem_of_mem_drop hs); omega⟩
  · exact ⟨by omega, fun s hs => by have := h.2 s hs; omega⟩
theorem c_PoolSame_t {z : Int} {A A' : Option Addr} {n m n' m' : Nat} {xs : List Pg} (w : World) (hr : RdF w (.slice A n m) xs := by exact rdA) (hq : RdF w (.slice A' n' m') xs := by exact rdA) : Calls Tryz.prog 41 #[.agg #[.int .i64 z, .slice A n m], .agg #[.int .i64 z, .slice A' n' m']] w (Ret (fun _ : Unit => .bool true) (fun _ => []) w) := by
  have := c_i_PoolSameB (z := z) (z' := z) w hr hq
  rwa [decide_eq_true rfl] at this
end E
end Go.Proofs.YtpiiapoafmnhhaaGreat
namespace Go.Proofs.YtpiiapoafmnhhaaGreat
namespace E
open Go Go.RowKit
set_option linter.unusedSimpArgs false
set_option linter.unusedVariables false
set_option maxHeartbeats 1000000
set_option maxRecDepth 10000
attribute [local irreducible] HC HL HQ HX HO At Y YV Opd Opds KnX Sl Ld Src GV RV Calls Code.wp eptr adr RdF ownF OneX HG LdC
theorem ks_appQ {L K K' : List Ck} (h : KSub K K') : KSub (L ++ K) K' := by
  obtain ⟨M, hp⟩ := h.perm
  exact KSub.ofPerm2 _ _ (M ++ L) ((hp.append_left L).trans (List.perm_append_comm.trans (by rw [List.append_assoc])))
theorem ks_consQ {c : Ck} {K K' : List Ck} (h : KSub K K') : KSub (c :: K) K' := ks_appQ (L := [c]) h
theorem ksq {M K : List Ck} (h : KSub M K := by (repeat (first | exact KSub.refl _ | apply ks_appQ | apply ks_consQ)); first | done | fail) : KSub M K := h
/-- A quiet operation that was chosen, under a guard or none. -/
theorem qbg {P : Program} {N : Nat} {w0 : World} {K : List Ck} {F : List (Nat × En)} {Q : Exit → Act → World → Prop} {ops : Array Oper} {rest : List Oper} {d : Nat} {c gk : Bool} {e : En} {s i : Nat} {Kp : List Ck} {is : List Nat} {o : Oper} {v : Value} (hr : HG P N w0 ops Q (.x s Kp is) rest ((d, e) :: F) K) (hd : o.dst = some d := by rfl) (hN : d < N := by decide) (hG : GE N F ops o.guard c gk := by first | exact GE.n | exact GE.s (by first | exact GV.pt rfl rfl | exact GV.pf rfl rfl | exact GV.gt rfl rfl | exact GV.gf rfl rfl)) (hK : (lst ops.size is).getD s false = true ∨ KSub K Kp := by first | exact Or.inr ksq | exact Or.inr ks | exact Or.inl (by decide +kernel)) (hy : YV P N w0 K F c o v := by exact a_len) (he : IE gk c v e := by first | exact IE.n _ _ | exact IE.s _ _) : HG P N w0 ops Q (.y s Kp i is) (o :: rest) F K := E.hg hd hN hG (KC.y hK) (NX.y _ _ _ _) hy.y he hr
end E
end Go.Proofs.YtpiiapoafmnhhaaGreat
