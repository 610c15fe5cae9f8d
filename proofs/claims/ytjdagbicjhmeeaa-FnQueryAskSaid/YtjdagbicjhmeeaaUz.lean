/- Tests of which a part is known; segments as data. -/
import Derived.Test.YtjdagbicjhmeeaaUd
import Derived.Test.YtjdagbicjhmeeaaQg
namespace Go.Proofs.Ytjdagbicjhmeeaa
namespace E
set_option linter.unusedSimpArgs false
set_option linter.unusedVariables false
open Go Go.RowKit
instance bp_or1 (b : Bool) (p n : Prop) [h : BP b p n] : BP (!true || b) p n := ⟨h.t, h.f⟩
instance bp_or2 (b : Bool) (p n : Prop) [h : BP b p n] : BP (false || b) p n := ⟨h.t, h.f⟩
instance bp_an1 (b : Bool) (p n : Prop) [h : BP b p n] : BP (true && b) p n := ⟨h.t, h.f⟩
instance bp_an2 (b : Bool) (p n : Prop) [h : BP b p n] : BP (!false && b) p n := ⟨h.t, h.f⟩
instance bp_or3 (b : Bool) : BP (true || b) True False := ⟨fun _ => trivial, fun h => (by cases h)⟩
instance bp_or4 (b : Bool) : BP (!false || b) True False := ⟨fun _ => trivial, fun h => (by cases h)⟩
instance bp_an3 (b : Bool) : BP (false && b) False True := ⟨fun h => (by cases h), fun _ => trivial⟩
instance bp_an4 (b : Bool) : BP (!true && b) False True := ⟨fun h => (by cases h), fun _ => trivial⟩
instance : Flat Sg := ⟨2, fun x => [.int .i64 x.l, .string x.b], fun _ => rfl, fun _ u h => by
  simp only [List.mem_cons, List.mem_nil_iff, or_false] at h
  rcases h with rfl | rfl <;> rfl⟩
instance : ElT Try.prog 195 Sg := ⟨trivial⟩
instance (l : Int) (b : ByteArray) : MkI Sg [.int .i64 l, .string b] ⟨l, b⟩ := ⟨rfl⟩
theorem eqF_str {P : Program} {t : Nat} [T : TStr P t] [T1 : TOne P t] (d : Nat) (xs ys : Array Value) (w : World) (fs : List Field) (f : Field) (a b : ByteArray) (hn : f.name ≠ "_") (ht : f.type = t) (hx : xs[f.offset]? = some (.string a)) (hy : ys[f.offset]? = some (.string b)) (r : Bool) (hr : (Op.eqFields (d + 1) xs ys fs).run P w = .ok r w) :
    (Op.eqFields (d + 1) xs ys (f :: fs)).run P w = .ok (decide (a = b) && r) w := by
  subst ht
  have hE : (Op.equalIn (d + 1) f.type (.string a) (.string b)).run P w = .ok (decide (a = b)) w := by rw [run_equalIn_string w d f.type a b T.is, toList_beq]
  simp only [Op.eqFields, hn, ne_eq, not_false_eq_true, if_true, Sem.run_bind, Go.part, T1.isAgg, Result.andThen_ok, Bool.false_eq_true, if_false, hx, hy, Sem.run_pure, hE, Sem.run_ite]
  by_cases h : a = b
  · subst h; simp [hr]
  · simp [h]
theorem eq_seg (d : Nat) (a0 b0 : Int) (a1 b1 : ByteArray) (w : World) : (Op.equalIn (d + 2) 195 (.agg #[.int .i64 a0, .string a1]) (.agg #[.int .i64 b0, .string b1])).run Try.prog w = .ok (decide (a0 = b0) && (decide (a1 = b1) && true)) w := by
  rw [run_equalIn_struct w (d + 1) 195 _ _ (by kernel_rfl) (by kernel_rfl)]
  have h : (Try.prog.fieldsOf 195).toList.map (fun f => (f.name, f.type, f.offset)) = [("Label", 3, 0), ("Bytes", 9, 1)] := by kernel_rfl
  generalize (Try.prog.fieldsOf 195).toList = fs at h
  have hl : fs.length = 2 := by simpa using congrArg List.length h
  match fs, hl, h with
  | [f0, f1], _, h =>
    simp only [List.map_cons, List.map_nil, List.cons.injEq, Prod.mk.injEq, and_true] at h
    obtain ⟨⟨n0, t0, o0⟩, n1, t1, o1⟩ := h
    exact (eqF_int (t := 3) _ _ _ w _ _ _ _ (by rw [n0]; decide) t0 (by rw [o0]; rfl) (by rw [o0]; rfl) _ (eqF_str (t := 9) _ _ _ w _ _ _ _ (by rw [n1]; decide) t1 (by rw [o1]; rfl) (by rw [o1]; rfl) _ (eqF_nil _ _ _ _)))
section
variable {N : Nat} {w0 : World} {K : List Ck} {F : List (Nat × En)} {c : Bool} {Q : Exit → Act → World → Prop} {ops : Array Oper} {rest : List Oper} {d : Nat} {dd : Option Tmp} {ty : TypeId} {pos : String} {af : Array Edge} {gd : Option (Nat × Bool)} {x y : Operand} {t' : TypeId} {o : Oper} {m m' : Md} {e : En} {gk : Bool}
theorem eqg_seg : (Try.prog).eqGuardType (Try.prog).depth 195 = false := by kernel_rfl
theorem sg_dec (a0 b0 : Int) (a1 b1 : ByteArray) : (decide (a0 = b0) && (decide (a1 = b1) && true)) = decide ((⟨a0, a1⟩ : Sg) = ⟨b0, b1⟩) := by
  rw [Bool.and_true, ← Bool.decide_and]
  congr 1
  simp
theorem a_neq_seg {a0 b0 : Int} {a1 b1 : ByteArray} (hx : Opd N F c x (.agg #[.int .i64 a0, .string a1]) := by first | exact Opd.pl rfl | exact Opd.gd rfl (fun h => h)) (hy : Opd N F c y (.agg #[.int .i64 b0, .string b1]) := by first | exact Opd.pl rfl | exact Opd.gd rfl (fun h => h)) : YV Try.prog N w0 K F c ⟨dd, .binOp .neq 195 x y t', ty, pos, af, gd⟩ (.bool (!decide ((⟨a0, a1⟩ : Sg) = ⟨b0, b1⟩))) := fun a w ha hc _ => by
  have h := eq_seg (10000 - 2) a0 b0 a1 b1 w
  rw [sg_dec] at h
  simp only [execOp, hx a ha hc, hy a ha hc, Sem.run_bind, run_eqGuard_agg w .neq 195 _ _ _ _ eqg_seg, Result.andThen_ok, run_neq_struct, h, Sem.run_pure]
theorem q6 {Kq : List Ck} {v : Value} (hr : HG Try.prog N w0 ops Q m' rest ((d, e) :: F) K) (hd : o.dst = some d := by rfl) (hN : d < N := by decide) (hG : GE N F ops o.guard c gk := by first | exact GE.n | exact GE.s (by first | exact GV.pt rfl rfl | exact GV.pf rfl rfl | exact GV.gt rfl rfl | exact GV.gf rfl rfl)) (hX : NX m m' := by first | exact NX.l | exact NX.q | exact NX.x _ _ _ _ | exact NX.y _ _ _ _) (hQ : KQ ops K m Kq := by first | exact KQ.l | exact KQ.q | exact KQ.x (by decide +kernel) ks) (hy : YV Try.prog N w0 Kq F c o v := by exact a_neq_seg) (he : IE gk c v e := by first | exact IE.n _ _ | exact IE.s _ _) : HG Try.prog N w0 ops Q m (o :: rest) F K := hgv hd hN hG hQ hX hy he hr
end
end E
end Go.Proofs.Ytjdagbicjhmeeaa
/- An operation that looks at no memory, in a region that draws its order: it may be taken first, whatever waits for it. -/
namespace Go.Proofs.Ytjdagbicjhmeeaa
namespace E
set_option linter.unusedSimpArgs false
set_option linter.unusedVariables false
open Go Go.RowKit
section
variable {P : Program} {N : Nat} {w0 : World} {K K' Kp : List Ck} {F F' : List (Nat × En)} {Q : Exit → Act → World → Prop} {ops : Array Oper} {rest : List Oper} {d : Nat}
theorem wpAnyS_pure {md : Region.Mode} {s : Nat} {T : World → Prop} {i : Nat} {oi : Oper} {v : Value} (hi : ops[i]? = some oi) (hsel : ∀ (j : Nat) (o : Oper) cs b, ops[j]? = some o → o.op ≠ .select cs b)
    (hQ : ∀ c a w, Q (.panic c) (a.put oi.dst v) w → Q (.panic c) a w) (his : i ≠ s) :
    ∀ (fuel : Nat) (listed : Array Bool) (a : Act) (w : World),
      (∀ j oj, ops[j]? = some oj → j ≠ i → listed.getD j true = false → (∀ e ∈ oj.after, Region.binds md e = true → e.on ≠ i) → oi.apart ops oj = true) →
      i ∈ Region.ready md ops listed → (listed.getD s false = false → T w) → YieldsIf P ops (fun _ => True) oi v a →
      wpAnyS P md ops Q s T fuel (listed.setIfInBounds i true) (a.put oi.dst v) w → wpAnyS P md ops Q s T (fuel + 1) listed a w := by
  intro fuel
  induction fuel with
  | zero =>
    intro listed a w _ hr hT hy H
    refine ⟨fun h => (by rw [h] at hr; cases hr), fun j hj => ?_⟩
    by_cases hji : j = i
    · subst hji
      exact hy.wpOp hi trivial ⟨fun hl => hT (by rwa [getD_set_ne false his] at hl), H⟩
    · have := ready_mono hj hji
      rw [H.1] at this
      cases this
  | succ fuel ih =>
    intro listed a w hfree hr hT hy H
    refine ⟨fun h => (by rw [h] at hr; cases hr), fun j hj => ?_⟩
    by_cases hji : j = i
    · subst hji
      exact hy.wpOp hi trivial ⟨fun hl => hT (by rwa [getD_set_ne false his] at hl), H⟩
    · have h1 := H.2 j (ready_mono hj hji)
      obtain ⟨hjun, oj, hoj, hall⟩ := mem_ready.1 hj
      have hnot : ∀ e ∈ oj.after, Region.binds md e = true → e.on ≠ i := fun e he hb heq => by
        have h1 := hall e he hb
        have h0 := (mem_ready.1 hr).1
        rw [heq] at h1
        rcases Nat.lt_or_ge i listed.size with h' | h'
        · simp [h'] at h0 h1; rw [h0] at h1; cases h1
        · simp [Array.getElem?_eq_none h'] at h1
      have h2 := wpOp_putIf hoj (hfree j oj hoj hji hjun hnot) (fun cs b => hsel i oi cs b hi) (fun cs b => hsel j oj cs b hoj) hQ hy h1
      have hfree' : ∀ k ok, ops[k]? = some ok → k ≠ i → (listed.setIfInBounds j true).getD k true = false →
          (∀ e ∈ ok.after, Region.binds md e = true → e.on ≠ i) → oi.apart ops ok = true := fun k ok hk hki hun hno => by
        refine hfree k ok hk hki ?_ hno
        by_cases hjk : j = k
        · subst hjk; exact hjun
        · rw [getD_set_ne true hjk] at hun; exact hun
      have hs : ((listed.setIfInBounds i true).setIfInBounds j true).getD s false = (listed.setIfInBounds j true).getD s false := by
        rw [Array.setIfInBounds_comm _ _ (fun e => hji e.symm), getD_set_ne false his]
      refine wpOp_mono (fun a' w' h3 => ⟨fun hl => h3.2.1 (by rw [hs]; exact hl), ih (listed.setIfInBounds j true) a' w' hfree' (ready_mono hr (Ne.symm hji)) (fun hl => h3.2.1 (by rw [hs]; exact hl)) h3.1 ?_⟩) h2
      rw [Array.setIfInBounds_comm _ _ hji]
      exact h3.2.2
variable {s fuel : Nat} {listed : Array Bool}
/-- The operation o yields v, whatever the world. -/
def YP (P : Program) (N : Nat) (F : List (Nat × En)) (o : Oper) (v : Value) : Prop := ∀ a w, FrOk N F a → (execOp a.eval o).run P w = .ok (.value v) w
theorem YP.of {o : Oper} {v : Value} (h : ∀ w, YV P N w [] F true o v) : YP P N F o v := fun a w ha => h w a w ha rfl (KOk.start w)
theorem hx_pure {o : Oper} {v : Value} (i : Nat) (hi : ops[i]? = some o) (hs : (Region.noSelect ops && Region.free .any ops listed i && (Region.ready .any ops listed).contains i && !(Nat.beq i s)) = true)
    (hg : o.guard = none) (hd : o.dst = some d) (hN : d < N) (hy : YP P N F o v) (hK : listed.getD s false = true ∨ KSub K Kp) (hr : HX P N w0 ops Q s Kp fuel (listed.setIfInBounds i true) ((d, .pl v) :: F) K) : HX P N w0 ops Q s Kp (fuel + 1) listed F K := fun a w ha hw => by
  simp only [Bool.and_eq_true, Bool.not_eq_true'] at hs
  obtain ⟨⟨⟨h1, h2⟩, h3⟩, h5⟩ := hs
  refine wpAnyS_pure (i := i) (v := v) hi (Region.noSelect_spec h1) (fun _ _ _ h => h.elim) (fun e => by subst e; simp at h5) fuel listed a w (Region.free_spec hi h2) (by simpa using h3) (fun hl => hK.elim (fun e => by rw [e] at hl; cases hl) (fun e => hw.sub e)) (Or.inl ⟨by simp [Region.wanted, hg], fun w _ => hy a w ha⟩) ?_
  rw [hd]
  exact hr _ _ (ha.put d (.pl v) v hN rfl) hw
theorem hg_pure {o : Oper} {i : Nat} {is : List Nat} {v : Value} (hd : o.dst = some d) (hN : d < N) (hg : o.guard = none) (hy : YP P N F o v) (hs : (Region.noSelect ops && Region.free .any ops (lst ops.size (i :: is)) i && (Region.ready .any ops (lst ops.size (i :: is))).contains i && !(Nat.beq i s)) = true) (hK : (lst ops.size (i :: is)).getD s false = true ∨ KSub K Kp) (hr : HG P N w0 ops Q (.x s Kp is) rest ((d, .pl v) :: F) K) : HG P N w0 ops Q (.x s Kp (i :: is)) (o :: rest) F K := by
  intro hGa hnd
  obtain ⟨h1, h2, h3⟩ := gath_step hGa
  have hr' := hr h3 (List.nodup_cons.1 hnd).2
  rw [← lst_set h2 hnd] at hr'
  exact hx_pure i h1 hs hg hd hN hy hK hr'
end
section
variable {P : Program} {N : Nat} {w0 : World} {K Kp : List Ck} {F : List (Nat × En)} {Q : Exit → Act → World → Prop} {ops : Array Oper} {rest : List Oper} {d : Nat} {o : Oper} {v : Value}
theorem qp {s i : Nat} {is : List Nat} (hr : HG P N w0 ops Q (.x s Kp is) rest ((d, .pl v) :: F) K) (hd : o.dst = some d := by rfl) (hN : d < N := by decide) (hg : o.guard = none := by rfl) (hy : ∀ w, YV P N w [] F true o v := by first | exact fun _ => a_move | exact fun _ => a_assign | exact fun _ => a_extract) (hs : (Region.noSelect ops && Region.free .any ops (lst ops.size (i :: is)) i && (Region.ready .any ops (lst ops.size (i :: is))).contains i && !(Nat.beq i s)) = true := by decide +kernel) (hK : (lst ops.size (i :: is)).getD s false = true ∨ KSub K Kp := by first | exact Or.inr ks | exact Or.inl (by decide +kernel)) : HG P N w0 ops Q (.x s Kp (i :: is)) (o :: rest) F K := hg_pure hd hN hg (YP.of hy) hs hK hr
/-- A region that draws its order: up to the operation s all chunks stay. -/
theorem dxs [M : Mx P] (s : Nat) {i : Nat} {l l' : List Oper} (is : List Nat) (h : HG P N w0 l.toArray Q (.x s K is) l' F K) (hg : Gath l is l' := by (repeat (first | exact Gath.nil | (apply Gath.cons; rfl))); first | done | fail) (hn : is.Nodup := by decide) (hl : is.length = l.length := by rfl) (hb : (List.range l.length).all (fun j => inB is j) = true := by rfl) : HC P N w0 (.region i l.toArray true) Q F K := dxk K s is h hg hn hl hb
end
end E
end Go.Proofs.Ytjdagbicjhmeeaa
/- Chunks are let go, where what remains is not told; slots that are read no more are let go. -/
namespace Go.Proofs.Ytjdagbicjhmeeaa
namespace E
open Go Go.RowKit
theorem ksv {K K' : List Ck} (h : KSub K K' := by (repeat (first | exact KSub.nil _ | exact KSub.refl _ | refine KSub.pick pk ?_ | refine KSub.ownF pk eqq ?_ | refine KSub.box pk eqq ?_ | refine KSub.drop1 ?_)); first | done | fail) : KSub K K' := h
theorem ks_one {K : List Ck} {k : Ck} : KSub (k :: K) K := KSub.drop1 (KSub.refl K)
theorem kb_one {ops : Array Oper} {K : List Ck} {k : Ck} {s i : Nat} {is : List Nat} : KB ops (.x s K (i :: is)) (k :: K) := KB.x (Or.inr ks_one)
/-- Only these slots are read behind. -/
theorem hcf {P : Program} {N : Nat} {w0 : World} {K : List Ck} {F : List (Nat × En)} {Q : Exit → Act → World → Prop} {c : Code} (F' : List (Nat × En)) (h : HC P N w0 c Q F' K) (hF : FSub F F' := by exact fs) : HC P N w0 c Q F K := fun a w ha hw => h a w (ha.less hF) hw
/-- Only these slots are read, and only these chunks are needed, behind. -/
theorem hck {P : Program} {N : Nat} {w0 : World} {K : List Ck} {F : List (Nat × En)} {Q : Exit → Act → World → Prop} {c : Code} (F' : List (Nat × En)) (K' : List Ck) (h : HC P N w0 c Q F' K') (hF : FSub F F' := by exact fs) (hK : KSub K K' := by exact ksv) : HC P N w0 c Q F K := fun a w ha hw => h a w (ha.less hF) (hw.sub hK)
end E
end Go.Proofs.Ytjdagbicjhmeeaa
