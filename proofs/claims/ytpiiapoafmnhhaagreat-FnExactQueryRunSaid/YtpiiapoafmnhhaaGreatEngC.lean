/- The engine, fourth part: code, loops, functions; regions that draw their order. -/
import Derived.Test.YtpiiapoafmnhhaaGreatEngL
import Derived.Deep.LoopGhost
namespace Go.Proofs.YtpiiapoafmnhhaaGreat
namespace E
set_option linter.unusedSimpArgs false
set_option linter.unusedVariables false
open Go Go.RowKit

def HC (P : Program) (N : Nat) (w0 : World) (c : Code) (Q : Exit → Act → World → Prop) (F : List (Nat × En)) (K : List Ck) : Prop := At N w0 (c.wp P Q) F K

/-- What F' says F says. -/
def FSub (F F' : List (Nat × En)) : Prop := ∀ n e, look F' n = some e → look F n = some e
theorem FSub.nil {F : List (Nat × En)} : FSub F [] := fun _ _ h => by simp [look] at h
theorem FSub.cons {F F' : List (Nat × En)} {n : Nat} {e : En} (h : look F n = some e) (hs : FSub F F') : FSub F ((n, e) :: F') := fun m e' he => by
  simp only [look] at he
  split at he
  · rename_i hb
    have : m = n := Nat.eq_of_beq_eq_true hb
    subst this
    injection he with he
    subst he
    exact h
  · exact hs m e' he
theorem FSub.int {F F' : List (Nat × En)} {n : Nat} {k : IntKind} {i i' : Int} (h : look F n = some (.pl (.int k i'))) (hi : i' = i) (hs : FSub F F') : FSub F ((n, .pl (.int k i)) :: F') := by
  subst hi; exact hs.cons h
theorem FSub.bool {F F' : List (Nat × En)} {n : Nat} {i i' : Bool} (h : look F n = some (.pl (.bool i'))) (hi : i' = i) (hs : FSub F F') : FSub F ((n, .pl (.bool i)) :: F') := by
  subst hi; exact hs.cons h
theorem FSub.refl (F : List (Nat × En)) : FSub F F := fun _ _ h => h

inductive KSub : List Ck → List Ck → Prop where
  | nil (K : List Ck) : KSub K []
  | pick {K K1 K' : List Ck} {k : Ck} (hp : Pick K k K1) (h : KSub K1 K') : KSub K (k :: K')
theorem KSub.perm {K K' : List Ck} (h : KSub K K') : ∃ K2, K.Perm (K' ++ K2) := by
  induction h with
  | nil K => exact ⟨K, List.Perm.refl _⟩
  | pick hp _ ih =>
    obtain ⟨K2, h2⟩ := ih
    exact ⟨K2, hp.perm.trans (List.Perm.cons _ h2)⟩
theorem KOk.sub {w0 w : World} {K K' : List Ck} (h : KOk w0 K w) (hs : KSub K K') : KOk w0 K' w := by
  obtain ⟨K2, hp⟩ := hs.perm
  have h' := h.perm hp
  exact ⟨h'.below, fun k hk => h'.holds k (List.mem_append_left _ hk), (List.pairwise_append.1 h'.apart).1⟩
theorem KSub.own {K K1 K' : List Ck} {v : Value} {e : TypeId} {sz n n' : Nat} {xs xs' : List Value} (hp : Pick K (.own v e sz n xs) K1) (hn : n = n') (hx : xs = xs') (h : KSub K1 K') : KSub K (.own v e sz n' xs' :: K') := by
  subst hn; subst hx; exact .pick hp h
theorem KSub.box {K K1 K' : List Ck} {g : Nat} {t : TypeId} {cs cs' : List Value} (hp : Pick K (.box g t cs) K1) (hx : cs = cs') (h : KSub K1 K') : KSub K (.box g t cs' :: K') := by
  subst hx; exact .pick hp h

section
variable {P : Program} {N : Nat} {w0 : World} {K K' : List Ck} {F F' : List (Nat × En)} {Q : Exit → Act → World → Prop}

theorem At.weak {R : Act → World → Prop} (h : At N w0 R F' K') (hF : FSub F F') (hK : KSub K K') : At N w0 R F K := fun a w ha hw => h a w (ha.less hF) (hw.sub hK)
theorem HC.weak {c : Code} (h : HC P N w0 c Q F' K') (hF : FSub F F') (hK : KSub K K') : HC P N w0 c Q F K := At.weak h hF hK

theorem hc_seq {x y : Code} (h : HC P N w0 x (Exit.then (y.wp P Q) Q) F K) : HC P N w0 (.seq x y) Q F K := fun a w ha hw => wp_seq (h a w ha hw)
theorem at_then {y : Code} (h : HC P N w0 y Q F K) : At N w0 (Exit.then (y.wp P Q) Q .normal) F K := h
theorem at_then_ret {R : Act → World → Prop} (h : At N w0 (Q .ret) F K) : At N w0 (Exit.then R Q .ret) F K := h
theorem at_then_exit {R : Act → World → Prop} {i : Nat} (h : At N w0 (Q (.exit i)) F K) : At N w0 (Exit.then R Q (.exit i)) F K := h
theorem hc_block {i : Nat} {x : Code} (h : HC P N w0 x (Exit.inBlock i Q) F K) : HC P N w0 (.block i x) Q F K := fun a w ha hw => wp_block (h a w ha hw)
theorem at_block {i : Nat} (h : At N w0 (Q .normal) F K) : At N w0 (Exit.inBlock i Q .normal) F K := h
theorem at_block_ret {i : Nat} (h : At N w0 (Q .ret) F K) : At N w0 (Exit.inBlock i Q .ret) F K := h
theorem at_block_exit {i : Nat} (h : At N w0 (Q .normal) F K) : At N w0 (Exit.inBlock i Q (.exit i)) F K := fun a w ha hw => by
  simp only [Exit.inBlock, if_true]; exact h a w ha hw
theorem at_block_other {i j : Nat} (hne : Nat.beq j i = false) (h : At N w0 (Q (.exit j)) F K) : At N w0 (Exit.inBlock i Q (.exit j)) F K := fun a w ha hw => by
  have : j ≠ i := fun e => by subst e; simp at hne
  simp only [Exit.inBlock, this, if_false]; exact h a w ha hw
theorem hc_exit {i : Nat} (h : At N w0 (Q (.exit i)) F K) : HC P N w0 (.exit i) Q F K := fun a w ha hw => wp_exit (h a w ha hw)
theorem hc_ret (h : At N w0 (Q .ret) F K) : HC P N w0 .ret Q F K := fun a w ha hw => wp_ret (h a w ha hw)
theorem hc_skip (h : At N w0 (Q .normal) F K) : HC P N w0 .skip Q F K := fun a w ha hw => wp_skip (h a w ha hw)
theorem hc_cond {c : Operand} {x y : Code} {b : Bool} (hc : Opd N F true c (.bool b)) (ht : b = true → HC P N w0 x Q F K) (hf : b = false → HC P N w0 y Q F K) : HC P N w0 (.cond c x y) Q F K := fun a w ha hw =>
  wp_cond_split (hc a ha rfl) (fun h => ht h a w ha hw) (fun h => hf h a w ha hw)
theorem hc_region {i : Nat} {l : List Oper} (h : HL P N w0 l.toArray Q l F K) : HC P N w0 (.region i l.toArray false) Q F K := fun a w ha hw => wp_region_lit (h a w ha hw)

theorem hc_loop {α : Type} {body : Code} (I : α → Prop) (Fi : α → List (Nat × En)) (Ki : α → List Ck) (μ : α → Nat) (x0 : α) (h0 : I x0) (hF : FSub F (Fi x0)) (hK : KSub K (Ki x0))
    (round : ∀ x, I x → HC P N w0 body (Exit.then (fun a w => ∃ y, I y ∧ μ y < μ x ∧ FrOk N (Fi y) a ∧ KOk w0 (Ki y) w) Q) (Fi x) (Ki x)) : HC P N w0 (.loop body) Q F K := fun a w ha hw => by
  refine wp_loop_ghost (fun n a w => ∃ x, I x ∧ μ x = n ∧ FrOk N (Fi x) a ∧ KOk w0 (Ki x) w) (μ x0) ⟨x0, h0, rfl, ha.less hF, hw.sub hK⟩ ?_
  rintro n a w ⟨x, hI, rfl, ha, hw⟩
  refine wp_mono (round x hI a w ha hw) ?_
  intro e a w h
  cases e <;> first | exact h | (obtain ⟨y, h1, h2, h3, h4⟩ := h; exact ⟨μ y, h2, y, h1, rfl, h3, h4⟩)
/-- The end of a round. -/
theorem at_round {α : Type} {I : α → Prop} {Fi : α → List (Nat × En)} {Ki : α → List Ck} {μ : α → Nat} {m : Nat} (y : α) (hI : I y) (hm : μ y < m) (hF : FSub F (Fi y)) (hK : KSub K (Ki y)) :
    At N w0 (Exit.then (fun a w => ∃ y, I y ∧ μ y < m ∧ FrOk N (Fi y) a ∧ KOk w0 (Ki y) w) Q .normal) F K := fun a w ha hw => ⟨y, hI, hm, ha.less hF, hw.sub hK⟩

/-! ### Functions -/
def argsF : List Value → Nat → List (Nat × En)
  | [], _ => []
  | v :: vs, i => (i, .pl v) :: argsF vs (i + 1)
theorem argsF_look : ∀ (vs : List Value) (i n : Nat) (e : En), look (argsF vs i) n = some e → ∃ v, e = .pl v ∧ i ≤ n ∧ vs[n - i]? = some v
  | [], i, n, e, h => by simp [argsF, look] at h
  | v :: vs, i, n, e, h => by
    simp only [argsF, look] at h
    split at h
    · rename_i hb
      have : n = i := Nat.eq_of_beq_eq_true hb
      subst this
      injection h with h
      exact ⟨v, h.symm, Nat.le_refl _, by simp⟩
    · rename_i hb
      have hne : n ≠ i := fun e => by subst e; simp at hb
      obtain ⟨u, h1, h2, h3⟩ := argsF_look vs (i + 1) n e h
      refine ⟨u, h1, by omega, ?_⟩
      have : n - i = n - (i + 1) + 1 := by omega
      rw [this, List.getElem?_cons_succ]
      exact h3
theorem enter {f : FuncId} {fn : Func} {c : Code} {args : List Value} {w : World} {R : Ending → World → Prop} (hf : P.funcs[f]? = some fn) (hb : fn.body = some c) (hN : fn.ntmps = N) (hl : args.length ≤ N)
    (h : HC P N w c (bodyPost P fn R) (argsF args 0) []) : Calls P f args.toArray w R := by
  refine calls_of_wp hf hb (h _ w ?_ (KOk.start w))
  refine ⟨by simp [hN]; omega, rfl, fun n e he => ?_⟩
  obtain ⟨v, rfl, _, hv⟩ := argsF_look args 0 n e he
  simp only [Nat.sub_zero] at hv
  have hlt : n < args.length := (List.getElem?_eq_some_iff.1 hv).1
  simp only [En.val, Array.getD_eq_getD_getElem?]
  rw [Array.getElem?_append_left (by simpa using hlt)]
  simp [hv]

/-- The results of a function, in the state (F, K). -/
def rOne (tmps : Array Value) : ResultVar → Sem Value
  | .tmp t => pure (tmps.getD t undef)
  | .cell ad t => do loadVar t (← asAddr (tmps.getD ad undef))
def RV (P : Program) (N : Nat) (w0 : World) (F : List (Nat × En)) (K : List Ck) (rs : List ResultVar) (vs : List Value) : Prop :=
  ∀ a w, FrOk N F a → KOk w0 K w → ∀ acc : Array Value, (List.foldlM (m := Sem) (fun (acc : Array Value) (r : ResultVar) => acc.push <$> rOne a.tmps r) acc rs).run P w = .ok (acc ++ vs.toArray) w
theorem RV.nil : RV P N w0 F K [] [] := fun a w _ _ acc => by simp
theorem RV.cons {r : ResultVar} {v : Value} {rs : List ResultVar} {vs : List Value} (h : ∀ a w, FrOk N F a → KOk w0 K w → (rOne a.tmps r).run P w = .ok v w) (hs : RV P N w0 F K rs vs) : RV P N w0 F K (r :: rs) (v :: vs) := fun a w ha hw acc => by
  simp only [List.foldlM_cons, Sem.run_bind, Sem.run_map, h a w ha hw, Result.andThen_ok]
  rw [hs a w ha hw (acc.push v)]
  simp
theorem RV.tmp {t : Nat} {v : Value} {rs : List ResultVar} {vs : List Value} (h : ev F (.tmp t) = some v) (hs : RV P N w0 F K rs vs) : RV P N w0 F K (.tmp t :: rs) (v :: vs) := RV.cons (fun a w ha hw => by
  have hv : a.tmps.getD t undef = v := Opd.pl (c := true) h a ha rfl
  simp only [rOne, hv, Sem.run_pure]) hs
theorem RV.cell {t n g i : Nat} {ty : TypeId} {us : List Value} {rs : List ResultVar} {vs : List Value} [T : TAgg P ty n] (h : ev F (.tmp t) = some (.pointer (some ⟨g, i, none⟩))) (hl : Ld w0 K true (.pointer (some ⟨g, i, none⟩)) us) (hn : us.length = n) (hs : RV P N w0 F K rs vs) : RV P N w0 F K (.cell t ty :: rs) (.agg us.toArray :: vs) := RV.cons (fun a w ha hw => by
  have hv : a.tmps.getD t undef = .pointer (some ⟨g, i, none⟩) := Opd.pl (c := true) h a ha rfl
  obtain ⟨ad, he, hc⟩ := hl rfl
  injection he with he
  injection he with he
  subst he
  subst hn
  have h1 := run_loadCells_of (P := P) w ⟨g, i, none⟩ us 0 #[] (fun j u hu => by rw [Nat.zero_add]; exact hc w hw j u hu)
  simp [rOne, hv, asAddr, loadVar, T.isAgg, T.size, loadCells, h1]) hs
theorem results_eq (fn : Func) (tmps : Array Value) : results fn tmps = (do let vs ← fn.results.mapM (rOne tmps); pure (if h : vs.size = 1 then vs[0] else .tuple vs)) := by
  unfold results
  congr 1
theorem results_of {fn : Func} {a : Act} {w : World} {vs : List Value} (h : RV P N w0 F K fn.results.toList vs) (ha : FrOk N F a) (hw : KOk w0 K w) : (results fn a.tmps).run P w = .ok (if h : vs.toArray.size = 1 then vs.toArray[0] else .tuple vs.toArray) w := by
  have h1 := h a w ha hw #[]
  rw [results_eq]
  simp only [Array.mapM_eq_foldlM, Sem.run_bind]
  rw [← Array.foldlM_toList, h1]
  simp
theorem at_ret1 {fn : Func} {R : Ending → World → Prop} {v : Value} (h : RV P N w0 F K fn.results.toList [v]) (hR : ∀ w, KOk w0 K w → R (.returned v) w) : At N w0 (bodyPost P fn R .ret) F K := fun a w ha hw =>
  ⟨ha.defers, v, by rw [results_of h ha hw]; rfl, hR w hw⟩
theorem at_retn {fn : Func} {R : Ending → World → Prop} {vs : List Value} (h : RV P N w0 F K fn.results.toList vs) (hn : vs.length ≠ 1) (hR : ∀ w, KOk w0 K w → R (.returned (.tuple vs.toArray)) w) : At N w0 (bodyPost P fn R .ret) F K := fun a w ha hw =>
  ⟨ha.defers, .tuple vs.toArray, by rw [results_of h ha hw]; simp [hn], hR w hw⟩
theorem at_end {fn : Func} {R : Ending → World → Prop} (h : At N w0 (bodyPost P fn R .ret) F K) : At N w0 (bodyPost P fn R .normal) F K := h
theorem Ret.mk {α : Type} {val : α → Value} {Kr : α → List Ck} {w w' : World} {v : Value} (x : α) (hv : v = val x) (hw : KOk w K w') (hs : KSub K (Kr x)) : Ret val Kr w (.returned v) w' := ⟨x, by rw [hv], hw.sub hs⟩
end
end E
end Go.Proofs.YtpiiapoafmnhhaaGreat
