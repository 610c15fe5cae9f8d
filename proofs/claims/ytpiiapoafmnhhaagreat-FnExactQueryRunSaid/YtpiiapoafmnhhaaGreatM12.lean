/- Tests of which a part is known; segments as data. -/
import Derived.Test.YtpiiapoafmnhhaaGreatM10
import Derived.Test.YtpiiapoafmnhhaaGreatM07
import Derived.Test.YtpiiapoafmnhhaaGreatM08
namespace Go.Proofs.YtpiiapoafmnhhaaGreat
namespace E
set_option linter.unusedSimpArgs false
set_option linter.unusedVariables false
open Go Go.RowKit
instance bp_or1 (b : Bool) (p n : Prop) [h : BP b p n] : BP (!true || b) p n := ⟨h.t, h.f⟩
instance bp_or2 (b : Bool) (p n : Prop) [h : BP b p n] : BP (false || b) p n := ⟨h.t, h.f⟩
instance bp_an1 (b : Bool) (p n : Prop) [h : BP b p n] : BP (true && b) p n := ⟨h.t, h.f⟩
instance bp_an2 (b : Bool) (p n : Prop) [h : BP b p n] : BP (!false && b) p n := ⟨h.t, h.f⟩
instance bp_or3 (b : Bool) : BP (true || b) True False := ⟨fun _ => trivial, fun h => (by cases h)⟩
instance bp_or4 (b : Bool) : BP (!false || b) True False := ⟨fun _ => trivial, fun h => (by cases h)⟩
instance bp_an3 (b : Bool) : BP (false && b) False True := ⟨fun h => (by cases h), fun _ => trivial⟩
instance bp_an4 (b : Bool) : BP (!true && b) False True := ⟨fun h => (by cases h), fun _ => trivial⟩
instance : Flat Sg := ⟨2, fun x => [.int .i64 x.l, .string x.b], fun _ => rfl, fun _ u h => by
  simp only [List.mem_cons, List.mem_nil_iff, or_false] at h
  rcases h with rfl | rfl <;> rfl⟩
instance : ElT Tryz.prog 65 Sg := ⟨trivial⟩
instance (l : Int) (b : ByteArray) : MkI Sg [.int .i64 l, .string b] ⟨l, b⟩ := ⟨rfl⟩
theorem eqF_str {P : Program} {t : Nat} [T : TStr P t] [T1 : TOne P t] (d : Nat) (xs ys : Array Value) (w : World) (fs : List Field) (f : Field) (a b : ByteArray) (hn : f.name ≠ "_") (ht : f.type = t) (hx : xs[f.offset]? = some (.string a)) (hy : ys[f.offset]? = some (.string b)) (r : Bool) (hr : (Op.eqFields (d + 1) xs ys fs).run P w = .ok r w) :
    (Op.eqFields (d + 1) xs ys (f :: fs)).run P w = .ok (decide (a = b) && r) w := by
  subst ht
  have hE : (Op.equalIn (d + 1) f.type (.string a) (.string b)).run P w = .ok (decide (a = b)) w := by rw [run_equalIn_string w d f.type a b T.is, toList_beq]
  simp only [Op.eqFields, hn, ne_eq, not_false_eq_true, if_true, Sem.run_bind, Go.part, T1.isAgg, Result.andThen_ok, Bool.false_eq_true, if_false, hx, hy, Sem.run_pure, hE, Sem.run_ite]
  by_cases h : a = b
  · subst h; simp [hr]
  · simp [h]
theorem eq_seg (d : Nat) (a0 b0 : Int) (a1 b1 : ByteArray) (w : World) : (Op.equalIn (d + 2) 65 (.agg #[.int .i64 a0, .string a1]) (.agg #[.int .i64 b0, .string b1])).run Tryz.prog w = .ok (decide (a0 = b0) && (decide (a1 = b1) && true)) w := by
  rw [run_equalIn_struct w (d + 1) 65 _ _ (by kernel_rfl) (by kernel_rfl)]
  have h : (Tryz.prog.fieldsOf 65).toList.map (fun f => (f.name, f.type, f.offset)) = [("Label", 3, 0), ("Bytes", 9, 1)] := by kernel_rfl
  generalize (Tryz.prog.fieldsOf 65).toList = fs at h
  have hl : fs.length = 2 := by simpa using congrArg List.length h
  match fs, hl, h with
  | [f0, f1], _, h =>
    simp only [List.map_cons, List.map_nil, List.cons.injEq, Prod.mk.injEq, and_true] at h
    obtain ⟨⟨n0, t0, o0⟩, n1, t1, o1⟩ := h
    exact (eqF_int (t := 3) _ _ _ w _ _ _ _ (by rw [n0]; decide) t0 (by rw [o0]; rfl) (by rw [o0]; rfl) _ (eqF_str (t := 9) _ _ _ w _ _ _ _ (by rw [n1]; decide) t1 (by rw [o1]; rfl) (by rw [o1]; rfl) _ (eqF_nil _ _ _ _)))
section
variable {N : Nat} {w0 : World} {K : List Ck} {F : List (Nat × En)} {c : Bool} {Q : Exit → Act → World → Prop} {ops : Array Oper} {rest : List Oper} {d : Nat} {dd : Option Tmp} {ty : TypeId} {pos : String} {af : Array Edge} {gd : Option (Nat × Bool)} {x y : Operand} {t' : TypeId} {o : Oper} {m m' : Md} {e : En} {gk : Bool}
theorem eqg_seg : (Tryz.prog).eqGuardType (Tryz.prog).depth 65 = false := by kernel_rfl
theorem sg_dec (a0 b0 : Int) (a1 b1 : ByteArray) : (decide (a0 = b0) && (decide (a1 = b1) && true)) = decide ((⟨a0, a1⟩ : Sg) = ⟨b0, b1⟩) := by
  rw [Bool.and_true, ← Bool.decide_and]
  congr 1
  simp
theorem a_neq_seg {a0 b0 : Int} {a1 b1 : ByteArray} (hx : Opd N F c x (.agg #[.int .i64 a0, .string a1]) := by first | exact Opd.pl rfl | exact Opd.gd rfl (fun h => h)) (hy : Opd N F c y (.agg #[.int .i64 b0, .string b1]) := by first | exact Opd.pl rfl | exact Opd.gd rfl (fun h => h)) : YV Tryz.prog N w0 K F c ⟨dd, .binOp .neq 65 x y t', ty, pos, af, gd⟩ (.bool (!decide ((⟨a0, a1⟩ : Sg) = ⟨b0, b1⟩))) := fun a w ha hc _ => by
  have h := eq_seg (10000 - 2) a0 b0 a1 b1 w
  rw [sg_dec] at h
  simp only [execOp, hx a ha hc, hy a ha hc, Sem.run_bind, run_eqGuard_agg w .neq 65 _ _ _ _ eqg_seg, Result.andThen_ok, run_neq_struct, h, Sem.run_pure]
theorem q6 {Kq : List Ck} {v : Value} (hr : HG Tryz.prog N w0 ops Q m' rest ((d, e) :: F) K) (hd : o.dst = some d := by rfl) (hN : d < N := by decide) (hG : GE N F ops o.guard c gk := by first | exact GE.n | exact GE.s (by first | exact GV.pt rfl rfl | exact GV.pf rfl rfl | exact GV.gt rfl rfl | exact GV.gf rfl rfl)) (hX : NX m m' := by first | exact NX.l | exact NX.q | exact NX.x _ _ _ _ | exact NX.y _ _ _ _) (hQ : KQ ops K m Kq := by first | exact KQ.l | exact KQ.q | exact KQ.x (by decide +kernel) ks) (hy : YV Tryz.prog N w0 Kq F c o v := by exact a_neq_seg) (he : IE gk c v e := by first | exact IE.n _ _ | exact IE.s _ _) : HG Tryz.prog N w0 ops Q m (o :: rest) F K := hgv hd hN hG hQ hX hy he hr
end
end E
end Go.Proofs.YtpiiapoafmnhhaaGreat
/- Numbers and rows as bytes, the reference's side. -/
namespace Go.Proofs.YtpiiapoafmnhhaaGreat
namespace E
open Go Go.RowKit
set_option linter.unusedSimpArgs false
set_option linter.unusedVariables false
set_option maxHeartbeats 1000000
set_option maxRecDepth 10000
attribute [local irreducible] HC HL HQ HX HO At Y YV Opd Opds KnX Sl Ld Src GV RV Calls Code.wp eptr adr RdF ownF OneX HG LdC
/-- A byte of a text. -/
def at_ (s : ByteArray) (i : Nat) : Nat := (bn s).getD i 0
theorem bn_get (s : ByteArray) {i : Nat} (h : i < s.size) : (bn s)[i]? = some (at_ s i) := by
  have hl : i < (bn s).length := by rw [bn_len]; exact h
  unfold at_
  rw [List.getD_eq_getElem?_getD, List.getElem?_eq_getElem hl]
  rfl
theorem bn_none (s : ByteArray) {i : Nat} (h : s.size ≤ i) : (bn s)[i]? = none := List.getElem?_eq_none (by rw [bn_len]; exact h)
theorem at_lt (s : ByteArray) (i : Nat) : at_ s i < 256 := by
  rcases Nat.lt_or_ge i s.size with h | h
  · have h1 := bn_get s h
    have := List.mem_of_getElem? h1
    unfold bn at this
    obtain ⟨b, _, hb⟩ := List.mem_map.1 this
    have := b.toNat_lt
    omega
  · unfold at_
    rw [List.getD_eq_getElem?_getD, bn_none s h]
    decide
section
variable {P : Program} {N : Nat} {w0 : World} {K : List Ck} {F : List (Nat × En)} {c : Bool} {Q : Exit → Act → World → Prop} {ops : Array Oper} {rest : List Oper} {d : Nat} {dd : Option Tmp} {ty : TypeId} {pos : String} {af : Array Edge} {gd : Option (Nat × Bool)} {x ix : Operand} {t t' : TypeId} {o : Oper} {m m' : Md} {e : En} {gk : Bool} {i : Int}
theorem a_ixS {s : ByteArray} {kd : IntKind} [T : TStr P t] (h : Opd N F c x (.string s) := by first | exact Opd.pl rfl | exact Opd.gd rfl (fun h => h)) (hi : Opd N F c ix (.int kd i) := by first | exact Opd.pl rfl | exact Opd.gd rfl (fun h => h)) (hb : c = true → 0 ≤ i ∧ i < (s.size : Int) := by first | exact (fun _ => by omega) | (intro hcc; simp only [Bool.and_eq_true, Bool.or_eq_true, Bool.not_eq_true', Bool.or_eq_false_iff, Bool.and_eq_false_iff, Bool.not_eq_false', decide_eq_true_eq, decide_eq_false_iff_not] at hcc; omega)) : YV P N w0 K F c ⟨dd, .index t x ix, ty, pos, af, gd⟩ (.int .u8 ((at_ s i.toNat : Nat) : Int)) := by
  have hg : c = true → 0 ≤ i ∧ s[i.toNat]? = some (UInt8.ofNat (at_ s i.toNat)) := fun hc => by
    obtain ⟨h0, h1⟩ := hb hc
    have hlt : i.toNat < s.size := by omega
    refine ⟨h0, ?_⟩
    have h2 := bn_get s hlt
    unfold bn at h2
    rw [List.getElem?_map, Array.getElem?_toList] at h2
    have h3 : s.data[i.toNat]? = some s.data[i.toNat] := Array.getElem?_eq_getElem hlt
    rw [h3] at h2
    simp only [Option.map_some, Option.some.injEq] at h2
    rw [← h2]
    simp only [UInt8.ofNat_toNat]
    exact getElem?_pos s i.toNat hlt
  have h4 := a_index_str (P := P) (w0 := w0) (K := K) (dd := dd) (ty := ty) (pos := pos) (af := af) (gd := gd) (t := t) h hi hg
  have h5 : (UInt8.ofNat (at_ s i.toNat)).toNat = at_ s i.toNat := by
    have := at_lt s i.toNat
    simp; omega
  rwa [h5] at h4
theorem a_conv8 {s : ByteArray} {j : Nat} [T1 : TInt P t .u8] [T2 : TInt P t' .i64] (hx : Opd N F c x (.int .u8 ((at_ s j : Nat) : Int)) := by first | exact Opd.pl rfl | exact Opd.gd rfl (fun h => h)) : YV P N w0 K F c ⟨dd, .convert t t' x, ty, pos, af, gd⟩ (.int .i64 ((at_ s j : Nat) : Int)) := by
  have h := y_conv (P := P) (w0 := w0) (K := K) (d := dd) (ty := ty) (pos := pos) (af := af) (gd := gd) (t := t) (t' := t') (k1 := .u8) (k2 := .i64) hx
  have := at_lt s j
  rwa [wrap_i64_of (by omega)] at h
theorem q5 {Kq : List Ck} {v : Value} (hr : HG P N w0 ops Q m' rest ((d, e) :: F) K) (hd : o.dst = some d := by rfl) (hN : d < N := by decide) (hG : GE N F ops o.guard c gk := by first | exact GE.n | exact GE.s (by first | exact GV.pt rfl rfl | exact GV.pf rfl rfl | exact GV.gt rfl rfl | exact GV.gf rfl rfl)) (hX : NX m m' := by first | exact NX.l | exact NX.q | exact NX.x _ _ _ _ | exact NX.y _ _ _ _) (hQ : KQ ops K m Kq := by first | exact KQ.l | exact KQ.q | exact KQ.x (by decide +kernel) ks) (hy : YV P N w0 Kq F c o v := by first | exact a_ixS | exact a_conv8) (he : IE gk c v e := by first | exact IE.n _ _ | exact IE.s _ _) : HG P N w0 ops Q m (o :: rest) F K := hgv hd hN hG hQ hX hy he hr
end
instance : ElT Tryz.prog 5 UInt8 := ⟨trivial⟩
/-- What a number's reading tells. -/
def nv (r : Option (Nat × Nat)) : Value := .tuple #[.int .i64 ((r.map (fun x => ((x.1 : Nat) : Int))).getD 0), .int .i64 ((r.map (fun x => ((x.2 : Nat) : Int))).getD 0), .bool r.isSome]
theorem nA_out {s : ByteArray} {p : Nat} (h : s.size ≤ p) : numA (bn s) p = none := by unfold numA; rw [bn_none s h]
theorem nA_one {s : ByteArray} {p : Nat} (h : p < s.size) (h1 : at_ s p < 128) : numA (bn s) p = some (at_ s p, p + 1) := by
  unfold numA; rw [bn_get s h]; simp only []; rw [if_pos h1]
theorem nA_end {s : ByteArray} {p : Nat} (h : p < s.size) (h1 : ¬ at_ s p < 128) (h2 : s.size ≤ p + 1) : numA (bn s) p = none := by
  unfold numA; rw [bn_get s h]; simp only []; rw [if_neg h1, bn_none s h2]
theorem nA_bad {s : ByteArray} {p : Nat} (h1 : ¬ at_ s p < 128) (h2 : p + 1 < s.size) (h3 : at_ s p = 128 ∨ 127 < at_ s (p + 1)) : numA (bn s) p = none := by
  unfold numA; rw [bn_get s (show p < s.size by omega)]; simp only []; rw [if_neg h1, bn_get s h2]; simp only []; rw [if_pos h3]
theorem nA_two {s : ByteArray} {p : Nat} (h1 : ¬ at_ s p < 128) (h2 : p + 1 < s.size) (h3 : ¬ (at_ s p = 128 ∨ 127 < at_ s (p + 1))) : numA (bn s) p = some ((at_ s p - 128) * 128 + at_ s (p + 1), p + 2) := by
  unfold numA; rw [bn_get s (show p < s.size by omega)]; simp only []; rw [if_neg h1, bn_get s h2]; simp only []; rw [if_neg h3]
theorem numA_le {s : ByteArray} {p : Nat} {r : Nat × Nat} (h : numA (bn s) p = some r) : r.1 ≤ 16383 ∧ p < r.2 ∧ r.2 ≤ s.size := by
  have hl := bn_len s
  unfold numA at h
  split at h
  · cases h
  · rename_i a ha
    have h1 := (List.getElem?_eq_some_iff.1 ha).1
    have h2 : a < 256 := by
      have := List.mem_of_getElem? ha
      unfold bn at this
      obtain ⟨b, _, hb⟩ := List.mem_map.1 this
      have := b.toNat_lt
      omega
    split at h
    · injection h with h; subst h; dsimp only; omega
    · split at h
      · cases h
      · rename_i b hb
        have h3 := (List.getElem?_eq_some_iff.1 hb).1
        split at h
        · cases h
        · injection h with h; subst h; dsimp only; omega
theorem toNat_cast (p : Nat) : ((p : Nat) : Int).toNat = p := rfl
theorem toNat_cast1 (p : Nat) : (((p : Nat) : Int) + 1).toNat = p + 1 := rfl
theorem c_s_NumAt {s : ByteArray} {p : Nat} (w : World) (hs : s.size ≤ 4000000 := by omega) (hp : p ≤ 100000000 := by omega) : Calls Tryz.prog 205 #[.string s, .int .i64 (p : Int)] w (Ret (fun _ : Unit => nv (numA (bn s) p)) (fun _ => []) w) := by
  have hb0 := at_lt s p
  have hb1 := at_lt s (p + 1)
  rcases Nat.lt_or_ge p s.size with h0 | h0
  · by_cases h1 : at_ s p < 128
    · rw [nA_one h0 h1]
      refine enter (args := _) Tryz.func205 rfl Tryz.ntmps205 (by simp) ?_
      repeat' (first | refine E.st ?_ | refine E.q5 ?_ | refine E.q3 ?_ | refine E.q ?_ | refine E.qs ?_ | refine E.q2 ?_ | refine E.q4 ?_ | refine E.tr ?_ | refine E.ap (fun _ _ => ?_) | refine E.b1 (fun _ _ => ?_) | refine E.b0 (fun _ _ => ?_) | refine E.bsn (fun _ _ => ?_) | refine E.mk (fun _ _ => ?_) | refine E.bxO (fun _ => ?_) | refine E.al (fun _ => ?_) | refine E.sbO ?_ | refine E.dq ?_ | refine E.ct ?_ | refine E.cf ?_ | refine E.cs (fun hh => ?_) (fun hh => ?_) | refine E.at_block_other rfl ?_)
      all_goals first
        | exact rn ()
        | (exfalso; simp only [toNat_cast, toNat_cast1] at *; omega)
    · rcases Nat.lt_or_ge (p + 1) s.size with h2 | h2
      · by_cases h3 : at_ s p = 128 ∨ 127 < at_ s (p + 1)
        · rw [nA_bad h1 h2 h3]
          refine enter (args := _) Tryz.func205 rfl Tryz.ntmps205 (by simp) ?_
          repeat' (first | refine E.st ?_ | refine E.q5 ?_ | refine E.q3 ?_ | refine E.q ?_ | refine E.qs ?_ | refine E.q2 ?_ | refine E.q4 ?_ | refine E.tr ?_ | refine E.ap (fun _ _ => ?_) | refine E.b1 (fun _ _ => ?_) | refine E.b0 (fun _ _ => ?_) | refine E.bsn (fun _ _ => ?_) | refine E.mk (fun _ _ => ?_) | refine E.bxO (fun _ => ?_) | refine E.al (fun _ => ?_) | refine E.sbO ?_ | refine E.dq ?_ | refine E.ct ?_ | refine E.cf ?_ | refine E.cs (fun hh => ?_) (fun hh => ?_) | refine E.at_block_other rfl ?_)
          all_goals first
            | exact rn ()
            | (exfalso; simp only [toNat_cast, toNat_cast1] at *; omega)
        · rw [nA_two h1 h2 h3]
          have e1 : ((((at_ s p - 128) * 128 + at_ s (p + 1) : Nat)) : Int) = ((at_ s p : Int) - 128) * 128 + (at_ s (p + 1) : Int) := by omega
          have w1 : IntKind.i64.wrap ((at_ s p : Int) - 128) = (at_ s p : Int) - 128 := wrap_i64_of (by omega)
          have w2 : IntKind.i64.wrap (((at_ s p : Int) - 128) * 128) = ((at_ s p : Int) - 128) * 128 := wrap_i64_of (by omega)
          have w3 : IntKind.i64.wrap (((at_ s p : Int) - 128) * 128 + (at_ s (p + 1) : Int)) = ((at_ s p : Int) - 128) * 128 + (at_ s (p + 1) : Int) := wrap_i64_of (by omega)
          refine enter (args := _) Tryz.func205 rfl Tryz.ntmps205 (by simp) ?_
          repeat' (first | refine E.st ?_ | refine E.q5 ?_ | refine E.q3 ?_ | refine E.q ?_ | refine E.qs ?_ | refine E.q2 ?_ | refine E.q4 ?_ | refine E.tr ?_ | refine E.ap (fun _ _ => ?_) | refine E.b1 (fun _ _ => ?_) | refine E.b0 (fun _ _ => ?_) | refine E.bsn (fun _ _ => ?_) | refine E.mk (fun _ _ => ?_) | refine E.bxO (fun _ => ?_) | refine E.al (fun _ => ?_) | refine E.sbO ?_ | refine E.dq ?_ | refine E.ct ?_ | refine E.cf ?_ | refine E.cs (fun hh => ?_) (fun hh => ?_) | refine E.at_block_other rfl ?_)
          all_goals first
            | (refine rn () (hv := ?_); simp only [nv, toNat_cast, toNat_cast1, Option.map_some, Option.getD_some, Option.isSome_some, w1, w2, w3, e1]; rfl)
            | (exfalso; simp only [toNat_cast, toNat_cast1] at *; omega)
            | trace_state
      · rw [nA_end h0 h1 h2]
        refine enter (args := _) Tryz.func205 rfl Tryz.ntmps205 (by simp) ?_
        repeat' (first | refine E.st ?_ | refine E.q5 ?_ | refine E.q3 ?_ | refine E.q ?_ | refine E.qs ?_ | refine E.q2 ?_ | refine E.q4 ?_ | refine E.tr ?_ | refine E.ap (fun _ _ => ?_) | refine E.b1 (fun _ _ => ?_) | refine E.b0 (fun _ _ => ?_) | refine E.bsn (fun _ _ => ?_) | refine E.mk (fun _ _ => ?_) | refine E.bxO (fun _ => ?_) | refine E.al (fun _ => ?_) | refine E.sbO ?_ | refine E.dq ?_ | refine E.ct ?_ | refine E.cf ?_ | refine E.cs (fun hh => ?_) (fun hh => ?_) | refine E.at_block_other rfl ?_)
        all_goals first
          | exact rn ()
          | (exfalso; simp only [toNat_cast, toNat_cast1] at *; omega)
  · rw [nA_out h0]
    refine enter (args := _) Tryz.func205 rfl Tryz.ntmps205 (by simp) ?_
    repeat' (first | refine E.st ?_ | refine E.q5 ?_ | refine E.q3 ?_ | refine E.q ?_ | refine E.qs ?_ | refine E.q2 ?_ | refine E.q4 ?_ | refine E.tr ?_ | refine E.ap (fun _ _ => ?_) | refine E.b1 (fun _ _ => ?_) | refine E.b0 (fun _ _ => ?_) | refine E.bsn (fun _ _ => ?_) | refine E.mk (fun _ _ => ?_) | refine E.bxO (fun _ => ?_) | refine E.al (fun _ => ?_) | refine E.sbO ?_ | refine E.dq ?_ | refine E.ct ?_ | refine E.cf ?_ | refine E.cs (fun hh => ?_) (fun hh => ?_) | refine E.at_block_other rfl ?_)
    all_goals first
      | exact rn ()
      | (exfalso; simp only [toNat_cast, toNat_cast1] at *; omega)
theorem u8_nat {z : Int} {n : Nat} (h : z = n) : UInt8.ofInt z = UInt8.ofNat n := by
  subst h
  unfold UInt8.ofInt
  have e : ((n : Int) % 256).toNat = n % 256 := by omega
  apply UInt8.toNat_inj.1
  simp [e]
theorem tx_one {z : Int} {n : Nat} (h : z = n) : tx [UInt8.ofInt z] = bs [n] := by unfold tx bs; simp [u8_nat h]
theorem tx_two {z y : Int} {n m : Nat} (h : z = n) (h' : y = m) : tx [UInt8.ofInt z, UInt8.ofInt y] = bs [n, m] := by unfold tx bs; simp [u8_nat h, u8_nat h']
theorem c_s_PackNum {n : Int} (w : World) (hn : -9000000000000000000 ≤ n ∧ n ≤ 9000000000000000000 := by omega) : Calls Tryz.prog 194 #[.int .i64 n] w (Ret (fun _ : Unit => .string (bs (numB n))) (fun _ => []) w) := by
  by_cases h0 : n < 0 ∨ 16383 < n
  · have e : numB n = [] := if_pos h0
    rw [e]
    refine enter (args := _) Tryz.func194 rfl Tryz.ntmps194 (by simp) ?_
    repeat' (first | refine E.st ?_ | refine E.q5 ?_ | refine E.q3 ?_ | refine E.q ?_ | refine E.qs ?_ | refine E.q2 ?_ | refine E.q4 ?_ | refine E.tr ?_ | refine E.ap (fun _ _ => ?_) | refine E.b1 (fun _ _ => ?_) | refine E.b0 (fun _ _ => ?_) | refine E.bsn (fun _ _ => ?_) | refine E.mk (fun _ _ => ?_) | refine E.bxO (fun _ => ?_) | refine E.al (fun _ => ?_) | refine E.sbO ?_ | refine E.dq ?_ | refine E.ct ?_ | refine E.cf ?_ | refine E.cs (fun hh => ?_) (fun hh => ?_) | refine E.at_block_other rfl ?_)
    all_goals first
      | exact rv0 rfl
      | (exfalso; simp_all; done)
      | (exfalso; omega)
  · by_cases h1 : n < 128
    · have e : numB n = [n.toNat] := by unfold numB; rw [if_neg h0, if_pos h1]
      have g1 : tx [UInt8.ofInt n] = bs [n.toNat] := tx_one (by omega)
      rw [e]
      refine enter (args := _) Tryz.func194 rfl Tryz.ntmps194 (by simp) ?_
      repeat' (first | refine E.st ?_ | refine E.q5 ?_ | refine E.q3 ?_ | refine E.q ?_ | refine E.qs ?_ | refine E.q2 ?_ | refine E.q4 ?_ | refine E.tr ?_ | refine E.ap (fun _ _ => ?_) | refine E.b1 (fun _ _ => ?_) | refine E.b0 (fun _ _ => ?_) | refine E.bsn (fun _ _ => ?_) | refine E.mk (fun _ _ => ?_) | refine E.bxO (fun _ => ?_) | refine E.al (fun _ => ?_) | refine E.sbO ?_ | refine E.dq ?_ | refine E.ct ?_ | refine E.cf ?_ | refine E.cs (fun hh => ?_) (fun hh => ?_) | refine E.at_block_other rfl ?_)
      all_goals first
        | exact rv0 (congrArg Value.string g1)
        | (exfalso; omega)
        | trace_state
    · have e : numB n = [128 + n.toNat / 128, n.toNat % 128] := by unfold numB; rw [if_neg h0, if_neg h1]
      have d1 : n.tdiv 128 = ((n.toNat / 128 : Nat) : Int) := by rw [Int.tdiv_eq_ediv_of_nonneg (by omega)]; omega
      have d2 : n.tmod 128 = ((n.toNat % 128 : Nat) : Int) := by rw [Int.tmod_eq_emod_of_nonneg (by omega)]; omega
      have g1 : tx [UInt8.ofInt (IntKind.i64.wrap (128 + IntKind.i64.wrap (n.tdiv 128))), UInt8.ofInt (n.tmod 128)] = bs [128 + n.toNat / 128, n.toNat % 128] := tx_two (by rw [d1, wrap_i64_of (z := ((n.toNat / 128 : Nat) : Int)) (by omega), wrap_i64_of (z := 128 + ((n.toNat / 128 : Nat) : Int)) (by omega)]; omega) (by rw [d2])
      rw [e]
      refine enter (args := _) Tryz.func194 rfl Tryz.ntmps194 (by simp) ?_
      repeat' (first | refine E.st ?_ | refine E.q5 ?_ | refine E.q3 ?_ | refine E.q ?_ | refine E.qs ?_ | refine E.q2 ?_ | refine E.q4 ?_ | refine E.tr ?_ | refine E.ap (fun _ _ => ?_) | refine E.b1 (fun _ _ => ?_) | refine E.b0 (fun _ _ => ?_) | refine E.bsn (fun _ _ => ?_) | refine E.mk (fun _ _ => ?_) | refine E.bxO (fun _ => ?_) | refine E.al (fun _ => ?_) | refine E.sbO ?_ | refine E.dq ?_ | refine E.ct ?_ | refine E.cf ?_ | refine E.cs (fun hh => ?_) (fun hh => ?_) | refine E.at_block_other rfl ?_)
      all_goals first
        | exact rv0 (congrArg Value.string g1)
        | (exfalso; omega)
        | trace_state
theorem c_s_NumAt_s {s : ByteArray} {p n nx : Nat} (w : World) (e : numA (bn s) p = some (n, nx)) (hs : s.size ≤ 4000000 := by omega) (hp : p ≤ 100000000 := by omega) : Calls Tryz.prog 205 #[.string s, .int .i64 (p : Int)] w (Ret (fun _ : Unit => .tuple #[.int .i64 (n : Int), .int .i64 (nx : Int), .bool true]) (fun _ => []) w) := by
  have := c_s_NumAt (s := s) (p := p) w
  rw [e] at this
  exact this
theorem c_s_NumAt_n {s : ByteArray} {p : Nat} (w : World) (e : numA (bn s) p = none) (hs : s.size ≤ 4000000 := by omega) (hp : p ≤ 100000000 := by omega) : Calls Tryz.prog 205 #[.string s, .int .i64 (p : Int)] w (Ret (fun _ : Unit => .tuple #[.int .i64 0, .int .i64 0, .bool false]) (fun _ => []) w) := by
  have := c_s_NumAt (s := s) (p := p) w
  rw [e] at this
  exact this
theorem bs_size (l : List Nat) : (bs l).size = l.length := by
  have h : (bs l).size = (l.map UInt8.ofNat).toArray.size := rfl
  rw [h]; simp
end E
end Go.Proofs.YtpiiapoafmnhhaaGreat
/- Rows as bytes, the reference's side. -/
namespace Go.Proofs.YtpiiapoafmnhhaaGreat
namespace E
open Go Go.RowKit
set_option linter.unusedSimpArgs false
set_option linter.unusedVariables false
set_option maxHeartbeats 1000000
set_option maxRecDepth 10000
attribute [local irreducible] HC HL HQ HX HO At Y YV Opd Opds KnX Sl Ld Src GV RV Calls Code.wp eptr adr RdF ownF OneX HG LdC
theorem c_s_l4Up {v : Value} {xs : List Int} (w : World) (hr : RdF w v xs := by exact rdA) (hl : xs.length ≤ 100000000 := by omega) : Calls Tryz.prog 221 #[v] w (Ret (fun _ : Unit => .bool (decide (up xs))) (fun _ => []) w) := by
  have o1 := hr.one
  refine enter (args := _) Tryz.func221 rfl Tryz.ntmps221 (by simp) ?_
  repeat' (first | refine E.st ?_ | refine E.q3 ?_ | refine E.q ?_ | refine E.qs ?_ | refine E.q2 ?_ | refine E.q4 ?_ | refine E.tr ?_ | refine E.ap (fun _ _ => ?_) | refine E.b1 (fun _ _ => ?_) | refine E.b0 (fun _ _ => ?_) | refine E.bsn (fun _ _ => ?_) | refine E.mk (fun _ _ => ?_) | refine E.bxO (fun _ => ?_) | refine E.al (fun _ => ?_) | refine E.sbO ?_ | refine E.dq ?_ | refine E.ct ?_ | refine E.cf ?_ | refine E.cs (fun hh => ?_) (fun hh => ?_) | refine E.at_block_other rfl ?_)
  refine lq (fun k : Nat => k ≤ xs.length ∧ (∀ x ∈ xs.take k, 0 ≤ x ∧ x ≤ 16383) ∧ (xs.take k).Pairwise (· < ·)) (fun k => [(3, .pl (.int .i64 (k : Int)))]) (fun k => ([] : List Ck)) (fun k => xs.length - k) 0 ⟨Nat.zero_le _, by simp, by simp⟩ (fun k hk => ?_)
  obtain ⟨hk, h1, h2⟩ := hk
  rcases Nat.lt_or_ge k xs.length with hlt | hge
  · obtain ⟨x, hx⟩ := get_lt hlt
    by_cases hb : 0 ≤ x ∧ x ≤ 16383
    · rcases Nat.eq_zero_or_pos k with h0 | h0
      · subst h0
        repeat' (first | refine E.st ?_ | refine E.q3 ?_ | refine E.q ?_ | refine E.qs ?_ | refine E.q2 ?_ | refine E.q4 ?_ | refine E.tr ?_ | refine E.ap (fun _ _ => ?_) | refine E.b1 (fun _ _ => ?_) | refine E.b0 (fun _ _ => ?_) | refine E.bsn (fun _ _ => ?_) | refine E.mk (fun _ _ => ?_) | refine E.bxO (fun _ => ?_) | refine E.al (fun _ => ?_) | refine E.sbO ?_ | refine E.dq ?_ | refine E.ct ?_ | refine E.cf ?_ | refine E.cs (fun hh => ?_) (fun hh => ?_) | refine E.at_block_other rfl ?_)
        all_goals first
          | exact rd 1 ⟨by omega, all_step h1 hx hb, pw_step (fun a b c hab hbc => by omega) h2 hx (Or.inl rfl)⟩
          | (exfalso; simp_all; done)
          | (exfalso; simp_all; omega)
          | trace_state
      · obtain ⟨y, hy⟩ := get_lt (show k - 1 < xs.length by omega)
        have hy' : xs[((k : Int) - 1).toNat]? = some y := by rw [show ((k : Int) - 1).toNat = k - 1 from by omega]; exact hy
        by_cases hyx : y < x
        · repeat' (first | refine E.st ?_ | refine E.q3 ?_ | refine E.q ?_ | refine E.qs ?_ | refine E.q2 ?_ | refine E.q4 ?_ | refine E.tr ?_ | refine E.ap (fun _ _ => ?_) | refine E.b1 (fun _ _ => ?_) | refine E.b0 (fun _ _ => ?_) | refine E.bsn (fun _ _ => ?_) | refine E.mk (fun _ _ => ?_) | refine E.bxO (fun _ => ?_) | refine E.al (fun _ => ?_) | refine E.sbO ?_ | refine E.dq ?_ | refine E.ct ?_ | refine E.cf ?_ | refine E.cs (fun hh => ?_) (fun hh => ?_) | refine E.at_block_other rfl ?_)
          all_goals first
            | exact rd (k + 1) ⟨by omega, all_step h1 hx hb, pw_step (fun a b c hab hbc => by omega) h2 hx (Or.inr ⟨y, hy, hyx⟩)⟩
            | (exfalso; simp_all; done)
            | (exfalso; simp_all; omega)
            | trace_state
        · have hno : decide (up xs) = false := decide_eq_false (fun h => pw_no hx h0 hy hyx h.2.1)
          rw [hno]
          repeat' (first | refine E.st ?_ | refine E.q3 ?_ | refine E.q ?_ | refine E.qs ?_ | refine E.q2 ?_ | refine E.q4 ?_ | refine E.tr ?_ | refine E.ap (fun _ _ => ?_) | refine E.b1 (fun _ _ => ?_) | refine E.b0 (fun _ _ => ?_) | refine E.bsn (fun _ _ => ?_) | refine E.mk (fun _ _ => ?_) | refine E.bxO (fun _ => ?_) | refine E.al (fun _ => ?_) | refine E.sbO ?_ | refine E.dq ?_ | refine E.ct ?_ | refine E.cf ?_ | refine E.cs (fun hh => ?_) (fun hh => ?_) | refine E.at_block_other rfl ?_)
          all_goals first
            | exact rb rfl
            | (exfalso; simp_all; done)
            | (exfalso; simp_all; omega)
            | trace_state
    · have hno : decide (up xs) = false := decide_eq_false (fun h => hb (h.1 x (List.mem_of_getElem? hx)))
      rw [hno]
      rcases Nat.eq_zero_or_pos k with h0 | h0
      · subst h0
        repeat' (first | refine E.st ?_ | refine E.q3 ?_ | refine E.q ?_ | refine E.qs ?_ | refine E.q2 ?_ | refine E.q4 ?_ | refine E.tr ?_ | refine E.ap (fun _ _ => ?_) | refine E.b1 (fun _ _ => ?_) | refine E.b0 (fun _ _ => ?_) | refine E.bsn (fun _ _ => ?_) | refine E.mk (fun _ _ => ?_) | refine E.bxO (fun _ => ?_) | refine E.al (fun _ => ?_) | refine E.sbO ?_ | refine E.dq ?_ | refine E.ct ?_ | refine E.cf ?_ | refine E.cs (fun hh => ?_) (fun hh => ?_) | refine E.at_block_other rfl ?_)
        all_goals first
          | exact rb rfl
          | (exfalso; simp_all; done)
          | (exfalso; simp_all; omega)
          | trace_state
      · obtain ⟨y, hy⟩ := get_lt (show k - 1 < xs.length by omega)
        have hy' : xs[((k : Int) - 1).toNat]? = some y := by rw [show ((k : Int) - 1).toNat = k - 1 from by omega]; exact hy
        repeat' (first | refine E.st ?_ | refine E.q3 ?_ | refine E.q ?_ | refine E.qs ?_ | refine E.q2 ?_ | refine E.q4 ?_ | refine E.tr ?_ | refine E.ap (fun _ _ => ?_) | refine E.b1 (fun _ _ => ?_) | refine E.b0 (fun _ _ => ?_) | refine E.bsn (fun _ _ => ?_) | refine E.mk (fun _ _ => ?_) | refine E.bxO (fun _ => ?_) | refine E.al (fun _ => ?_) | refine E.sbO ?_ | refine E.dq ?_ | refine E.ct ?_ | refine E.cf ?_ | refine E.cs (fun hh => ?_) (fun hh => ?_) | refine E.at_block_other rfl ?_)
        all_goals first
          | exact rb rfl
          | (exfalso; simp_all; done)
          | (exfalso; simp_all; omega)
          | trace_state
  · rw [List.take_of_length_le hge] at h1 h2
    repeat' (first | refine E.st ?_ | refine E.q3 ?_ | refine E.q ?_ | refine E.qs ?_ | refine E.q2 ?_ | refine E.q4 ?_ | refine E.tr ?_ | refine E.ap (fun _ _ => ?_) | refine E.b1 (fun _ _ => ?_) | refine E.b0 (fun _ _ => ?_) | refine E.bsn (fun _ _ => ?_) | refine E.mk (fun _ _ => ?_) | refine E.bxO (fun _ => ?_) | refine E.al (fun _ => ?_) | refine E.sbO ?_ | refine E.dq ?_ | refine E.ct ?_ | refine E.cf ?_ | refine E.cs (fun hh => ?_) (fun hh => ?_) | refine E.at_block_other rfl ?_)
    refine rb ?_
    by_cases h3 : xs.length ≤ 127
    · rw [decide_eq_true (show up xs from ⟨h1, h2, h3⟩), decide_eq_true (by omega)]
    · rw [decide_eq_false (fun h : up xs => h3 h.2.2), decide_eq_false (by omega)]
theorem c_s_l4Up_t {v : Value} {xs : List Int} (w : World) (h : up xs) (hr : RdF w v xs := by exact rdA) : Calls Tryz.prog 221 #[v] w (Ret (fun _ : Unit => .bool true) (fun _ => []) w) := by
  have := c_s_l4Up w hr (by have := h.2.2; omega)
  rwa [decide_eq_true h] at this
theorem c_s_l4Up_f {v : Value} {xs : List Int} (w : World) (h : ¬ up xs) (hr : RdF w v xs := by exact rdA) (hl : xs.length ≤ 100000000 := by omega) : Calls Tryz.prog 221 #[v] w (Ret (fun _ : Unit => .bool false) (fun _ => []) w) := by
  have := c_s_l4Up w hr hl
  rwa [decide_eq_false h] at this
/-- The number ahead of the place k. -/
def lastI (last : Int) (xs : List Int) (k : Nat) : Int := if k = 0 then last else xs.getD (k - 1) 0
theorem lastI_zero (last : Int) (xs : List Int) : lastI last xs 0 = last := rfl
theorem lastI_succ {last : Int} {xs : List Int} {k : Nat} {x : Int} (h : xs[k]? = some x) : lastI last xs (k + 1) = x := by
  unfold lastI
  rw [if_neg (by omega), Nat.add_sub_cancel, List.getD_eq_getElem?_getD, h]; rfl
theorem gapB_step : ∀ (xs : List Int) (k : Nat) (last x : Int), xs[k]? = some x → gapB last (xs.take (k + 1)) = gapB last (xs.take k) ++ numB (x - lastI last xs k - 1)
  | [], k, last, x, h => by simp at h
  | y :: ys, 0, last, x, h => by
    simp only [List.getElem?_cons_zero, Option.some.injEq] at h
    subst h
    simp [gapB, lastI]
  | y :: ys, k + 1, last, x, h => by
    have ih := gapB_step ys k y x (by simpa using h)
    simp only [List.take_succ_cons, gapB, ih, List.append_assoc]
    congr 3
    unfold lastI
    cases k with
    | zero => simp
    | succ k => simp
theorem lastI_bd {xs : List Int} (h : ∀ x ∈ xs, 0 ≤ x ∧ x ≤ 16383) (k : Nat) (hk : k ≤ xs.length) : -1 ≤ lastI (-1) xs k ∧ lastI (-1) xs k ≤ 16383 := by
  cases k with
  | zero => rw [lastI_zero]; omega
  | succ k =>
    obtain ⟨x, hx⟩ := get_lt (show k < xs.length by omega)
    rw [lastI_succ hx]
    have := h x (List.mem_of_getElem? hx)
    omega
theorem c_s_PackRow {v : Value} {xs : List Int} (w : World) (hr : RdF w v xs := by exact rdA) (hl : xs.length ≤ 100000000 := by omega) : Calls Tryz.prog 193 #[v] w (Ret (fun _ : Unit => .string (bs (rowB xs))) (fun _ => []) w) := by
  have o1 := hr.one
  by_cases hu : up xs
  · have hlen := hu.2.2
    have hrow : rowB xs = numB xs.length ++ gapB (-1) xs := if_pos hu
    rw [hrow]
    refine enter (args := _) Tryz.func193 rfl Tryz.ntmps193 (by simp) ?_
    repeat' (first | refine E.st ?_ | refine E.cl (h := fun _ w _ => c_s_l4Up_t w hu) (k := ?_) | refine E.cl (h := fun _ w _ => c_s_PackNum w) (k := ?_)  | refine E.q3 ?_ | refine E.q ?_ | refine E.qs ?_ | refine E.q2 ?_ | refine E.q4 ?_ | refine E.tr ?_ | refine E.ap (fun _ _ => ?_) | refine E.b1 (fun _ _ => ?_) | refine E.b0 (fun _ _ => ?_) | refine E.bsn (fun _ _ => ?_) | refine E.mk (fun _ _ => ?_) | refine E.bxO (fun _ => ?_) | refine E.al (fun _ => ?_) | refine E.sbO ?_ | refine E.dq ?_ | refine E.ct ?_ | refine E.cf ?_ | refine E.cs (fun hh => ?_) (fun hh => ?_) | refine E.at_block_other rfl ?_)
    refine lq (fun k : Nat => k ≤ xs.length) (fun k => [(5, .pl (.int .i64 (k : Int))), (4, .pl (.int .i64 (lastI (-1) xs k))), (3, .pl (.string (bs (numB xs.length ++ gapB (-1) (xs.take k)))))]) (fun k => ([] : List Ck)) (fun k => xs.length - k) 0 (Nat.zero_le _) (fun k hk => ?_) (hF := by simp only [List.take_zero, gapB, List.append_nil]; exact fs)
    have hb0 := lastI_bd hu.1 k hk
    have hz1 : (bs (numB xs.length ++ gapB (-1) (xs.take k))).size ≤ 10000 := by
      rw [bs_size, List.length_append]
      have := numB_le (xs.length : Int)
      have := gapB_le (-1) (xs.take k)
      rw [List.length_take] at this
      omega
    rcases Nat.lt_or_ge k xs.length with hlt | hge
    · obtain ⟨x, hx⟩ := get_lt hlt
      have hb := hu.1 x (List.mem_of_getElem? hx)
      have hz2 : (bs (numB (x - lastI (-1) xs k - 1))).size ≤ 2 := by rw [bs_size]; exact numB_le _
      have hst : bs (numB xs.length ++ gapB (-1) (xs.take (k + 1))) = bs (numB xs.length ++ gapB (-1) (xs.take k)) ++ bs (numB (x - lastI (-1) xs k - 1)) := by rw [gapB_step xs k (-1) x hx, ← List.append_assoc, bs_app]
      have hla := lastI_succ (last := -1) hx
      repeat' (first | refine E.st ?_ | refine E.cl (h := fun _ w _ => c_s_PackNum w) (k := ?_)  | refine E.q3 ?_ | refine E.q ?_ | refine E.qs ?_ | refine E.q2 ?_ | refine E.q4 ?_ | refine E.tr ?_ | refine E.ap (fun _ _ => ?_) | refine E.b1 (fun _ _ => ?_) | refine E.b0 (fun _ _ => ?_) | refine E.bsn (fun _ _ => ?_) | refine E.mk (fun _ _ => ?_) | refine E.bxO (fun _ => ?_) | refine E.al (fun _ => ?_) | refine E.sbO ?_ | refine E.dq ?_ | refine E.ct ?_ | refine E.cf ?_ | refine E.cs (fun hh => ?_) (fun hh => ?_) | refine E.at_block_other rfl ?_)
      refine rd (k + 1) (by omega) (hF := ?_)
      rw [hst, hla]
      exact fs
    · rw [List.take_of_length_le hge]
      repeat' (first | refine E.st ?_ | refine E.q3 ?_ | refine E.q ?_ | refine E.qs ?_ | refine E.q2 ?_ | refine E.q4 ?_ | refine E.tr ?_ | refine E.ap (fun _ _ => ?_) | refine E.b1 (fun _ _ => ?_) | refine E.b0 (fun _ _ => ?_) | refine E.bsn (fun _ _ => ?_) | refine E.mk (fun _ _ => ?_) | refine E.bxO (fun _ => ?_) | refine E.al (fun _ => ?_) | refine E.sbO ?_ | refine E.dq ?_ | refine E.ct ?_ | refine E.cf ?_ | refine E.cs (fun hh => ?_) (fun hh => ?_) | refine E.at_block_other rfl ?_)
      exact rv0 rfl
  · have hrow : rowB xs = [] := if_neg hu
    rw [hrow]
    refine enter (args := _) Tryz.func193 rfl Tryz.ntmps193 (by simp) ?_
    repeat' (first | refine E.st ?_ | refine E.cl (h := fun _ w _ => c_s_l4Up_f w hu) (k := ?_)  | refine E.q3 ?_ | refine E.q ?_ | refine E.qs ?_ | refine E.q2 ?_ | refine E.q4 ?_ | refine E.tr ?_ | refine E.ap (fun _ _ => ?_) | refine E.b1 (fun _ _ => ?_) | refine E.b0 (fun _ _ => ?_) | refine E.bsn (fun _ _ => ?_) | refine E.mk (fun _ _ => ?_) | refine E.bxO (fun _ => ?_) | refine E.al (fun _ => ?_) | refine E.sbO ?_ | refine E.dq ?_ | refine E.ct ?_ | refine E.cf ?_ | refine E.cs (fun hh => ?_) (fun hh => ?_) | refine E.at_block_other rfl ?_)
    exact rv0 rfl
/-- What a row's reading tells. -/
def rl (r : Option (List Int × Nat)) : List Int := (r.map (fun x => x.1)).getD []
def re (r : Option (List Int × Nat)) : Nat := (r.map (fun x => x.2)).getD 0
theorem c_s_RowAt {s : ByteArray} {p : Nat} (w : World) (hs : s.size ≤ 4000000 := by omega) (hp : p ≤ 100000000 := by omega) : Calls Tryz.prog 178 #[.string s, .int .i64 (p : Int)] w (Ret (fun z : V1 => .tuple #[z.1, .int .i64 ((re (rowA (bn s) p) : Nat) : Int), .bool (rowA (bn s) p).isSome]) (fun z => [ownF 3 z.1 (rl (rowA (bn s) p))]) w) := by
  cases hn : numA (bn s) p with
  | none =>
    have hR : rowA (bn s) p = none := by unfold rowA; rw [hn]
    rw [hR]
    refine enter (args := _) Tryz.func178 rfl Tryz.ntmps178 (by simp) ?_
    repeat' (first | refine E.st ?_ | refine E.cl (h := fun _ w _ => c_s_NumAt_n w hn) (k := ?_)  | refine E.q3 ?_ | refine E.q ?_ | refine E.qs ?_ | refine E.q2 ?_ | refine E.q4 ?_ | refine E.tr ?_ | refine E.ap (fun _ _ => ?_) | refine E.b1 (fun _ _ => ?_) | refine E.b0 (fun _ _ => ?_) | refine E.bsn (fun _ _ => ?_) | refine E.mk (fun _ _ => ?_) | refine E.bxO (fun _ => ?_) | refine E.al (fun _ => ?_) | refine E.sbO ?_ | refine E.dq ?_ | refine E.ct ?_ | refine E.cf ?_ | refine E.cs (fun hh => ?_) (fun hh => ?_) | refine E.at_block_other rfl ?_)
    all_goals first
      | exact rn (α := V1) ⟨_, by assumption⟩
      | (exfalso; simp_all; done)
      | (exfalso; simp_all; omega)
  | some r =>
    obtain ⟨n, nx⟩ := r
    have hle := numA_le hn
    dsimp only at hle
    by_cases hn2 : 127 < n
    · have hR : rowA (bn s) p = none := by unfold rowA; rw [hn]; simp only []; rw [if_pos hn2]
      rw [hR]
      refine enter (args := _) Tryz.func178 rfl Tryz.ntmps178 (by simp) ?_
      repeat' (first | refine E.st ?_ | refine E.cl (h := fun _ w _ => c_s_NumAt_s w hn) (k := ?_)  | refine E.q3 ?_ | refine E.q ?_ | refine E.qs ?_ | refine E.q2 ?_ | refine E.q4 ?_ | refine E.tr ?_ | refine E.ap (fun _ _ => ?_) | refine E.b1 (fun _ _ => ?_) | refine E.b0 (fun _ _ => ?_) | refine E.bsn (fun _ _ => ?_) | refine E.mk (fun _ _ => ?_) | refine E.bxO (fun _ => ?_) | refine E.al (fun _ => ?_) | refine E.sbO ?_ | refine E.dq ?_ | refine E.ct ?_ | refine E.cf ?_ | refine E.cs (fun hh => ?_) (fun hh => ?_) | refine E.at_block_other rfl ?_)
      all_goals first
        | exact rn (α := V1) ⟨_, by assumption⟩
        | (exfalso; simp_all; done)
        | (exfalso; simp_all; omega)
    · have hR : rowA (bn s) p = gapA (bn s) n (-1) nx := by unfold rowA; rw [hn]; simp only []; rw [if_neg hn2]
      refine enter (args := _) Tryz.func178 rfl Tryz.ntmps178 (by simp) ?_
      repeat' (first | refine E.st ?_ | refine E.cl (h := fun _ w _ => c_s_NumAt_s w hn) (k := ?_) | refine E.b0 (α := Int) (fun v0 h0 => ?_) | refine E.q3 ?_ | refine E.q ?_ | refine E.qs ?_ | refine E.q2 ?_ | refine E.q4 ?_ | refine E.tr ?_ | refine E.ap (fun _ _ => ?_) | refine E.b1 (fun _ _ => ?_) | refine E.b0 (fun _ _ => ?_) | refine E.bsn (fun _ _ => ?_) | refine E.mk (fun _ _ => ?_) | refine E.bxO (fun _ => ?_) | refine E.al (fun _ => ?_) | refine E.sbO ?_ | refine E.dq ?_ | refine E.ct ?_ | refine E.cf ?_ | refine E.cs (fun hh => ?_) (fun hh => ?_) | refine E.at_block_other rfl ?_)
      refine lq (fun z : Nat × V1 × Int × Nat × List Int => z.1 ≤ n ∧ (-1 ≤ z.2.2.1 ∧ z.2.2.1 ≤ 16383) ∧ z.2.2.2.2.length = z.1 ∧ z.2.2.2.1 ≤ s.size ∧ gapA (bn s) n (-1) nx = (gapA (bn s) (n - z.1) z.2.2.1 z.2.2.2.1).map (fun r => (z.2.2.2.2 ++ r.1, r.2))) (fun z => [(12, .pl (.int .i64 (z.1 : Int))), (10, .pl z.2.1.1), (11, .pl (.int .i64 z.2.2.1)), (8, .pl (.int .i64 ((z.2.2.2.1 : Nat) : Int))), (9, .pl (.bool true))]) (fun z => [ownF 3 z.2.1.1 z.2.2.2.2]) (fun z => n - z.1) (0, ⟨v0, h0⟩, -1, nx, []) ⟨Nat.zero_le _, (by decide : (-1 : Int) ≤ -1 ∧ (-1 : Int) ≤ 16383), rfl, hle.2.2, by simp⟩ (fun z hz => ?_)
      obtain ⟨i, ⟨v1, o1⟩, last, q, acc⟩ := z
      obtain ⟨hi, hlb, hal, hq, hG⟩ := hz
      dsimp only at hi hlb hal hq hG ⊢
      rcases Nat.lt_or_ge i n with hlt | hge
      · have hs1 : n - i = (n - (i + 1)) + 1 := by omega
        cases hn3 : numA (bn s) q with
        | none =>
          have hN : rowA (bn s) p = none := by rw [hR, hG, hs1]; simp [gapA, hn3]
          rw [hN]
          repeat' (first | refine E.st ?_ | refine E.cl (h := fun _ w _ => c_s_NumAt_n w hn3) (k := ?_)  | refine E.q3 ?_ | refine E.q ?_ | refine E.qs ?_ | refine E.q2 ?_ | refine E.q4 ?_ | refine E.tr ?_ | refine E.ap (fun _ _ => ?_) | refine E.b1 (fun _ _ => ?_) | refine E.b0 (fun _ _ => ?_) | refine E.bsn (fun _ _ => ?_) | refine E.mk (fun _ _ => ?_) | refine E.bxO (fun _ => ?_) | refine E.al (fun _ => ?_) | refine E.sbO ?_ | refine E.dq ?_ | refine E.ct ?_ | refine E.cf ?_ | refine E.cs (fun hh => ?_) (fun hh => ?_) | refine E.at_block_other rfl ?_)
          all_goals first
            | exact rn (α := V1) ⟨_, by assumption⟩
            | (exfalso; simp_all; done)
            | (exfalso; simp_all; omega)
        | some r =>
          obtain ⟨g, q2⟩ := r
          have hle3 := numA_le hn3
          dsimp only at hle3
          by_cases hg : 16383 < last + 1 + (g : Int)
          · have hN : rowA (bn s) p = none := by rw [hR, hG, hs1]; simp [gapA, hn3, hg]
            rw [hN]
            repeat' (first | refine E.st ?_ | refine E.cl (h := fun _ w _ => c_s_NumAt_s w hn3) (k := ?_)  | refine E.q3 ?_ | refine E.q ?_ | refine E.qs ?_ | refine E.q2 ?_ | refine E.q4 ?_ | refine E.tr ?_ | refine E.ap (fun _ _ => ?_) | refine E.b1 (fun _ _ => ?_) | refine E.b0 (fun _ _ => ?_) | refine E.bsn (fun _ _ => ?_) | refine E.mk (fun _ _ => ?_) | refine E.bxO (fun _ => ?_) | refine E.al (fun _ => ?_) | refine E.sbO ?_ | refine E.dq ?_ | refine E.ct ?_ | refine E.cf ?_ | refine E.cs (fun hh => ?_) (fun hh => ?_) | refine E.at_block_other rfl ?_)
            all_goals first
              | exact rn (α := V1) ⟨_, by assumption⟩
              | (exfalso; simp_all; done)
              | (exfalso; simp_all; omega)
          · have hS : gapA (bn s) n (-1) nx = (gapA (bn s) (n - (i + 1)) (last + 1 + g) q2).map (fun r => ((acc ++ [last + 1 + (g : Int)]) ++ r.1, r.2)) := by
              rw [hG, hs1]
              simp only [gapA, hn3, hg, if_false, Option.map_map]
              congr 1
              funext r
              simp
            repeat' (first | refine E.st ?_ | refine E.cl (h := fun _ w _ => c_s_NumAt_s w hn3) (k := ?_)  | refine E.q3 ?_ | refine E.q ?_ | refine E.qs ?_ | refine E.q2 ?_ | refine E.q4 ?_ | refine E.tr ?_ | refine E.ap (fun _ _ => ?_) | refine E.b1 (fun _ _ => ?_) | refine E.b0 (fun _ _ => ?_) | refine E.bsn (fun _ _ => ?_) | refine E.mk (fun _ _ => ?_) | refine E.bxO (fun _ => ?_) | refine E.al (fun _ => ?_) | refine E.sbO ?_ | refine E.dq ?_ | refine E.ct ?_ | refine E.cf ?_ | refine E.cs (fun hh => ?_) (fun hh => ?_) | refine E.at_block_other rfl ?_)
            exact rd (α := Nat × V1 × Int × Nat × List Int) (i + 1, ⟨_, by assumption⟩, last + 1 + (g : Int), q2, acc ++ [last + 1 + (g : Int)]) ⟨by dsimp only; omega, by dsimp only; omega, by simp [hal], by dsimp only; omega, hS⟩
      · have hN : rowA (bn s) p = some (acc, q) := by rw [hR, hG, show n - i = 0 from by omega]; simp [gapA]
        rw [hN]
        repeat' (first | refine E.st ?_ | refine E.q3 ?_ | refine E.q ?_ | refine E.qs ?_ | refine E.q2 ?_ | refine E.q4 ?_ | refine E.tr ?_ | refine E.ap (fun _ _ => ?_) | refine E.b1 (fun _ _ => ?_) | refine E.b0 (fun _ _ => ?_) | refine E.bsn (fun _ _ => ?_) | refine E.mk (fun _ _ => ?_) | refine E.bxO (fun _ => ?_) | refine E.al (fun _ => ?_) | refine E.sbO ?_ | refine E.dq ?_ | refine E.ct ?_ | refine E.cf ?_ | refine E.cs (fun hh => ?_) (fun hh => ?_) | refine E.at_block_other rfl ?_)
        exact rn (α := V1) ⟨v1, o1⟩
theorem c_s_RowAt_s {s : ByteArray} {p nx : Nat} {row : List Int} (w : World) (e : rowA (bn s) p = some (row, nx)) (hs : s.size ≤ 4000000 := by omega) (hp : p ≤ 100000000 := by omega) : Calls Tryz.prog 178 #[.string s, .int .i64 (p : Int)] w (Ret (fun z : V1 => .tuple #[z.1, .int .i64 (nx : Int), .bool true]) (fun z => [ownF 3 z.1 row]) w) := by
  have := c_s_RowAt (s := s) (p := p) w
  rw [e] at this
  exact this
theorem c_s_RowAt_n {s : ByteArray} {p : Nat} (w : World) (e : rowA (bn s) p = none) (hs : s.size ≤ 4000000 := by omega) (hp : p ≤ 100000000 := by omega) : Calls Tryz.prog 178 #[.string s, .int .i64 (p : Int)] w (Ret (fun z : V1 => .tuple #[z.1, .int .i64 0, .bool false]) (fun z => [ownF 3 z.1 ([] : List Int)]) w) := by
  have := c_s_RowAt (s := s) (p := p) w
  rw [e] at this
  exact this
theorem gapA_le {s : ByteArray} : ∀ (n : Nat) (last : Int) (p : Nat) {r : List Int × Nat}, gapA (bn s) n last p = some r → r.1.length = n ∧ p ≤ r.2 ∧ (p ≤ s.size → r.2 ≤ s.size)
  | 0, last, p, r, h => by
    simp only [gapA, Option.some.injEq] at h
    subst h; simp
  | n + 1, last, p, r, h => by
    unfold gapA at h
    split at h
    · cases h
    · rename_i g nx hn
      have hb := numA_le hn
      dsimp only at hb
      split at h
      · cases h
      · cases hg : gapA (bn s) n (last + 1 + g) nx with
        | none => rw [hg] at h; cases h
        | some r2 =>
          rw [hg] at h
          simp only [Option.map_some, Option.some.injEq] at h
          have ih := gapA_le n _ nx hg
          subst h
          refine ⟨by simp [ih.1], by dsimp only; omega, fun _ => ?_⟩
          dsimp only
          exact ih.2.2 (by omega)
theorem rowA_le {s : ByteArray} {p : Nat} {r : List Int × Nat} (h : rowA (bn s) p = some r) : r.1.length ≤ 127 ∧ p ≤ r.2 ∧ r.2 ≤ s.size := by
  unfold rowA at h
  split at h
  · cases h
  · rename_i n nx hn
    have hb := numA_le hn
    dsimp only at hb
    split at h
    · cases h
    · have := gapA_le n _ nx h
      have := this.2.2 (by omega)
      omega
end E
end Go.Proofs.YtpiiapoafmnhhaaGreat
/- Numbers and rows as bytes, the program's side. -/
namespace Go.Proofs.YtpiiapoafmnhhaaGreat
namespace E
open Go Go.RowKit
set_option linter.unusedSimpArgs false
set_option linter.unusedVariables false
set_option maxHeartbeats 1000000
set_option maxRecDepth 10000
attribute [local irreducible] HC HL HQ HX HO At Y YV Opd Opds KnX Sl Ld Src GV RV Calls Code.wp eptr adr RdF ownF OneX HG LdC
theorem c_i_NumAt {s : ByteArray} {p : Nat} (w : World) (hs : s.size ≤ 4000000 := by omega) (hp : p ≤ 100000000 := by omega) : Calls Tryz.prog 195 #[.string s, .int .i64 (p : Int)] w (Ret (fun _ : Unit => nv (numA (bn s) p)) (fun _ => []) w) := by
  have hb0 := at_lt s p
  have hb1 := at_lt s (p + 1)
  rcases Nat.lt_or_ge p s.size with h0 | h0
  · by_cases h1 : at_ s p < 128
    · rw [nA_one h0 h1]
      refine enter (args := _) Tryz.func195 rfl Tryz.ntmps195 (by simp) ?_
      repeat' (first | refine E.st ?_ | refine E.q5 ?_ | refine E.q3 ?_ | refine E.q ?_ | refine E.qs ?_ | refine E.q2 ?_ | refine E.q4 ?_ | refine E.tr ?_ | refine E.ap (fun _ _ => ?_) | refine E.b1 (fun _ _ => ?_) | refine E.b0 (fun _ _ => ?_) | refine E.bsn (fun _ _ => ?_) | refine E.mk (fun _ _ => ?_) | refine E.bxO (fun _ => ?_) | refine E.al (fun _ => ?_) | refine E.sbO ?_ | refine E.dq ?_ | refine E.ct ?_ | refine E.cf ?_ | refine E.cs (fun hh => ?_) (fun hh => ?_) | refine E.at_block_other rfl ?_)
      all_goals first
        | exact rn ()
        | (exfalso; simp only [toNat_cast, toNat_cast1] at *; omega)
    · rcases Nat.lt_or_ge (p + 1) s.size with h2 | h2
      · by_cases h3 : at_ s p = 128 ∨ 127 < at_ s (p + 1)
        · rw [nA_bad h1 h2 h3]
          refine enter (args := _) Tryz.func195 rfl Tryz.ntmps195 (by simp) ?_
          repeat' (first | refine E.st ?_ | refine E.q5 ?_ | refine E.q3 ?_ | refine E.q ?_ | refine E.qs ?_ | refine E.q2 ?_ | refine E.q4 ?_ | refine E.tr ?_ | refine E.ap (fun _ _ => ?_) | refine E.b1 (fun _ _ => ?_) | refine E.b0 (fun _ _ => ?_) | refine E.bsn (fun _ _ => ?_) | refine E.mk (fun _ _ => ?_) | refine E.bxO (fun _ => ?_) | refine E.al (fun _ => ?_) | refine E.sbO ?_ | refine E.dq ?_ | refine E.ct ?_ | refine E.cf ?_ | refine E.cs (fun hh => ?_) (fun hh => ?_) | refine E.at_block_other rfl ?_)
          all_goals first
            | exact rn ()
            | (exfalso; simp only [toNat_cast, toNat_cast1] at *; omega)
        · rw [nA_two h1 h2 h3]
          have e1 : ((((at_ s p - 128) * 128 + at_ s (p + 1) : Nat)) : Int) = ((at_ s p : Int) - 128) * 128 + (at_ s (p + 1) : Int) := by omega
          have w1 : IntKind.i64.wrap ((at_ s p : Int) - 128) = (at_ s p : Int) - 128 := wrap_i64_of (by omega)
          have w2 : IntKind.i64.wrap (((at_ s p : Int) - 128) * 128) = ((at_ s p : Int) - 128) * 128 := wrap_i64_of (by omega)
          have w3 : IntKind.i64.wrap (((at_ s p : Int) - 128) * 128 + (at_ s (p + 1) : Int)) = ((at_ s p : Int) - 128) * 128 + (at_ s (p + 1) : Int) := wrap_i64_of (by omega)
          refine enter (args := _) Tryz.func195 rfl Tryz.ntmps195 (by simp) ?_
          repeat' (first | refine E.st ?_ | refine E.q5 ?_ | refine E.q3 ?_ | refine E.q ?_ | refine E.qs ?_ | refine E.q2 ?_ | refine E.q4 ?_ | refine E.tr ?_ | refine E.ap (fun _ _ => ?_) | refine E.b1 (fun _ _ => ?_) | refine E.b0 (fun _ _ => ?_) | refine E.bsn (fun _ _ => ?_) | refine E.mk (fun _ _ => ?_) | refine E.bxO (fun _ => ?_) | refine E.al (fun _ => ?_) | refine E.sbO ?_ | refine E.dq ?_ | refine E.ct ?_ | refine E.cf ?_ | refine E.cs (fun hh => ?_) (fun hh => ?_) | refine E.at_block_other rfl ?_)
          all_goals first
            | (refine rn () (hv := ?_); simp only [nv, toNat_cast, toNat_cast1, Option.map_some, Option.getD_some, Option.isSome_some, w1, w2, w3, e1]; rfl)
            | (exfalso; simp only [toNat_cast, toNat_cast1] at *; omega)
            | trace_state
      · rw [nA_end h0 h1 h2]
        refine enter (args := _) Tryz.func195 rfl Tryz.ntmps195 (by simp) ?_
        repeat' (first | refine E.st ?_ | refine E.q5 ?_ | refine E.q3 ?_ | refine E.q ?_ | refine E.qs ?_ | refine E.q2 ?_ | refine E.q4 ?_ | refine E.tr ?_ | refine E.ap (fun _ _ => ?_) | refine E.b1 (fun _ _ => ?_) | refine E.b0 (fun _ _ => ?_) | refine E.bsn (fun _ _ => ?_) | refine E.mk (fun _ _ => ?_) | refine E.bxO (fun _ => ?_) | refine E.al (fun _ => ?_) | refine E.sbO ?_ | refine E.dq ?_ | refine E.ct ?_ | refine E.cf ?_ | refine E.cs (fun hh => ?_) (fun hh => ?_) | refine E.at_block_other rfl ?_)
        all_goals first
          | exact rn ()
          | (exfalso; simp only [toNat_cast, toNat_cast1] at *; omega)
  · rw [nA_out h0]
    refine enter (args := _) Tryz.func195 rfl Tryz.ntmps195 (by simp) ?_
    repeat' (first | refine E.st ?_ | refine E.q5 ?_ | refine E.q3 ?_ | refine E.q ?_ | refine E.qs ?_ | refine E.q2 ?_ | refine E.q4 ?_ | refine E.tr ?_ | refine E.ap (fun _ _ => ?_) | refine E.b1 (fun _ _ => ?_) | refine E.b0 (fun _ _ => ?_) | refine E.bsn (fun _ _ => ?_) | refine E.mk (fun _ _ => ?_) | refine E.bxO (fun _ => ?_) | refine E.al (fun _ => ?_) | refine E.sbO ?_ | refine E.dq ?_ | refine E.ct ?_ | refine E.cf ?_ | refine E.cs (fun hh => ?_) (fun hh => ?_) | refine E.at_block_other rfl ?_)
    all_goals first
      | exact rn ()
      | (exfalso; simp only [toNat_cast, toNat_cast1] at *; omega)
theorem c_i_NumAt_s {s : ByteArray} {p n nx : Nat} (w : World) (e : numA (bn s) p = some (n, nx)) (hs : s.size ≤ 4000000 := by omega) (hp : p ≤ 100000000 := by omega) : Calls Tryz.prog 195 #[.string s, .int .i64 (p : Int)] w (Ret (fun _ : Unit => .tuple #[.int .i64 (n : Int), .int .i64 (nx : Int), .bool true]) (fun _ => []) w) := by
  have := c_i_NumAt (s := s) (p := p) w
  rw [e] at this
  exact this
theorem c_i_NumAt_n {s : ByteArray} {p : Nat} (w : World) (e : numA (bn s) p = none) (hs : s.size ≤ 4000000 := by omega) (hp : p ≤ 100000000 := by omega) : Calls Tryz.prog 195 #[.string s, .int .i64 (p : Int)] w (Ret (fun _ : Unit => .tuple #[.int .i64 0, .int .i64 0, .bool false]) (fun _ => []) w) := by
  have := c_i_NumAt (s := s) (p := p) w
  rw [e] at this
  exact this
/-- Bytes. -/
def b8 (l : List Nat) : List UInt8 := l.map UInt8.ofNat
theorem b8_app (a b : List Nat) : b8 (a ++ b) = b8 a ++ b8 b := by simp [b8]
theorem tx_b8 (l : List Nat) : tx (b8 l) = bs l := rfl
theorem b8_len (l : List Nat) : (b8 l).length = l.length := by simp [b8]
theorem c_appendNum {v : Value} {xs : List UInt8} {n : Int} {w0 : World} {K : List Ck} (w : World) (hw : KOk w0 (ownF 5 v xs :: K) w) (hn : -9000000000000000000 ≤ n ∧ n ≤ 9000000000000000000 := by omega) (hl : xs.length ≤ 10000000 := by omega) :
    Calls Tryz.prog 149 #[v, .int .i64 n] w (RetK (fun z : V1 => z.1) (fun z => ownF 5 z.1 (xs ++ b8 (numB n)) :: K) w0) := by
  have ho : v.oneCell' = true := (RdF.of_own (List.mem_cons_self) hw : RdF w v xs).one
  by_cases h0 : n < 0 ∨ 16383 < n
  · have e : xs ++ b8 (numB n) = xs := by
      have : numB n = [] := if_pos h0
      rw [this]; simp [b8]
    rw [e]
    refine enterK (args := _) hw Tryz.func149 rfl Tryz.ntmps149 (by simp) ?_
    repeat' (first | refine E.st ?_ | refine E.q5 ?_ | refine E.q3 ?_ | refine E.q ?_ | refine E.qs ?_ | refine E.q2 ?_ | refine E.q4 ?_ | refine E.tr ?_ | refine E.ap (fun _ _ => ?_) | refine E.b1 (fun _ _ => ?_) | refine E.b0 (fun _ _ => ?_) | refine E.bsn (fun _ _ => ?_) | refine E.mk (fun _ _ => ?_) | refine E.bxO (fun _ => ?_) | refine E.al (fun _ => ?_) | refine E.sbO ?_ | refine E.dq ?_ | refine E.ct ?_ | refine E.cf ?_ | refine E.cs (fun hh => ?_) (fun hh => ?_) | refine E.at_block_other rfl ?_)
    all_goals first
      | exact r1K (α := V1) ⟨v, ho⟩
      | (exfalso; simp_all; done)
      | (exfalso; omega)
  · by_cases h1 : n < 128
    · have e : b8 (numB n) = [UInt8.ofInt n] := by
        have : numB n = [n.toNat] := by unfold numB; rw [if_neg h0, if_pos h1]
        rw [this, b8, List.map_cons, List.map_nil, u8_nat (z := n) (n := n.toNat) (by omega)]
      rw [e]
      refine enterK (args := _) hw Tryz.func149 rfl Tryz.ntmps149 (by simp) ?_
      repeat' (first | refine E.st ?_ | refine E.q5 ?_ | refine E.q3 ?_ | refine E.q ?_ | refine E.qs ?_ | refine E.q2 ?_ | refine E.q4 ?_ | refine E.tr ?_ | refine E.ap (fun _ _ => ?_) | refine E.b1 (fun _ _ => ?_) | refine E.b0 (fun _ _ => ?_) | refine E.bsn (fun _ _ => ?_) | refine E.mk (fun _ _ => ?_) | refine E.bxO (fun _ => ?_) | refine E.al (fun _ => ?_) | refine E.sbO ?_ | refine E.dq ?_ | refine E.ct ?_ | refine E.cf ?_ | refine E.cs (fun hh => ?_) (fun hh => ?_) | refine E.at_block_other rfl ?_)
      all_goals first
        | exact r1K (α := V1) ⟨_, by assumption⟩
        | (exfalso; simp_all; done)
        | (exfalso; omega)
        | trace_state
    · have d1 : n.tdiv 128 = ((n.toNat / 128 : Nat) : Int) := by rw [Int.tdiv_eq_ediv_of_nonneg (by omega)]; omega
      have d2 : n.tmod 128 = ((n.toNat % 128 : Nat) : Int) := by rw [Int.tmod_eq_emod_of_nonneg (by omega)]; omega
      have e : b8 (numB n) = [UInt8.ofInt (IntKind.i64.wrap (128 + IntKind.i64.wrap (n.tdiv 128))), UInt8.ofInt (n.tmod 128)] := by
        have : numB n = [128 + n.toNat / 128, n.toNat % 128] := by unfold numB; rw [if_neg h0, if_neg h1]
        rw [this, b8, List.map_cons, List.map_cons, List.map_nil, d1, d2, wrap_i64_of (z := ((n.toNat / 128 : Nat) : Int)) (by omega), wrap_i64_of (z := 128 + ((n.toNat / 128 : Nat) : Int)) (by omega), u8_nat (z := 128 + ((n.toNat / 128 : Nat) : Int)) (n := 128 + n.toNat / 128) (by omega), u8_nat (z := ((n.toNat % 128 : Nat) : Int)) (n := n.toNat % 128) rfl]
      rw [e]
      refine enterK (args := _) hw Tryz.func149 rfl Tryz.ntmps149 (by simp) ?_
      repeat' (first | refine E.st ?_ | refine E.q5 ?_ | refine E.q3 ?_ | refine E.q ?_ | refine E.qs ?_ | refine E.q2 ?_ | refine E.q4 ?_ | refine E.tr ?_ | refine E.ap (fun _ _ => ?_) | refine E.b1 (fun _ _ => ?_) | refine E.b0 (fun _ _ => ?_) | refine E.bsn (fun _ _ => ?_) | refine E.mk (fun _ _ => ?_) | refine E.bxO (fun _ => ?_) | refine E.al (fun _ => ?_) | refine E.sbO ?_ | refine E.dq ?_ | refine E.ct ?_ | refine E.cf ?_ | refine E.cs (fun hh => ?_) (fun hh => ?_) | refine E.at_block_other rfl ?_)
      all_goals first
        | exact r1K (α := V1) ⟨_, by assumption⟩
        | (exfalso; simp_all; done)
        | (exfalso; omega)
        | trace_state
end E
end Go.Proofs.YtpiiapoafmnhhaaGreat
/- An operation that looks at no memory, in a region that draws its order: it may be taken first, whatever waits for it. -/
namespace Go.Proofs.YtpiiapoafmnhhaaGreat
namespace E
set_option linter.unusedSimpArgs false
set_option linter.unusedVariables false
open Go Go.RowKit
section
variable {P : Program} {N : Nat} {w0 : World} {K K' Kp : List Ck} {F F' : List (Nat × En)} {Q : Exit → Act → World → Prop} {ops : Array Oper} {rest : List Oper} {d : Nat}
theorem wpAnyS_pure {md : Region.Mode} {s : Nat} {T : World → Prop} {i : Nat} {oi : Oper} {v : Value} (hi : ops[i]? = some oi) (hsel : ∀ (j : Nat) (o : Oper) cs b, ops[j]? = some o → o.op ≠ .select cs b)
    (hQ : ∀ c a w, Q (.panic c) (a.put oi.dst v) w → Q (.panic c) a w) (his : i ≠ s) :
    ∀ (fuel : Nat) (listed : Array Bool) (a : Act) (w : World),
      (∀ j oj, ops[j]? = some oj → j ≠ i → listed.getD j true = false → (∀ e ∈ oj.after, Region.binds md e = true → e.on ≠ i) → oi.apart ops oj = true) →
      i ∈ Region.ready md ops listed → (listed.getD s false = false → T w) → YieldsIf P ops (fun _ => True) oi v a →
      wpAnyS P md ops Q s T fuel (listed.setIfInBounds i true) (a.put oi.dst v) w → wpAnyS P md ops Q s T (fuel + 1) listed a w := by
  intro fuel
  induction fuel with
  | zero =>
    intro listed a w _ hr hT hy H
    refine ⟨fun h => (by rw [h] at hr; cases hr), fun j hj => ?_⟩
    by_cases hji : j = i
    · subst hji
      exact hy.wpOp hi trivial ⟨fun hl => hT (by rwa [getD_set_ne false his] at hl), H⟩
    · have := ready_mono hj hji
      rw [H.1] at this
      cases this
  | succ fuel ih =>
    intro listed a w hfree hr hT hy H
    refine ⟨fun h => (by rw [h] at hr; cases hr), fun j hj => ?_⟩
    by_cases hji : j = i
    · subst hji
      exact hy.wpOp hi trivial ⟨fun hl => hT (by rwa [getD_set_ne false his] at hl), H⟩
    · have h1 := H.2 j (ready_mono hj hji)
      obtain ⟨hjun, oj, hoj, hall⟩ := mem_ready.1 hj
      have hnot : ∀ e ∈ oj.after, Region.binds md e = true → e.on ≠ i := fun e he hb heq => by
        have h1 := hall e he hb
        have h0 := (mem_ready.1 hr).1
        rw [heq] at h1
        rcases Nat.lt_or_ge i listed.size with h' | h'
        · simp [h'] at h0 h1; rw [h0] at h1; cases h1
        · simp [Array.getElem?_eq_none h'] at h1
      have h2 := wpOp_putIf hoj (hfree j oj hoj hji hjun hnot) (fun cs b => hsel i oi cs b hi) (fun cs b => hsel j oj cs b hoj) hQ hy h1
      have hfree' : ∀ k ok, ops[k]? = some ok → k ≠ i → (listed.setIfInBounds j true).getD k true = false →
          (∀ e ∈ ok.after, Region.binds md e = true → e.on ≠ i) → oi.apart ops ok = true := fun k ok hk hki hun hno => by
        refine hfree k ok hk hki ?_ hno
        by_cases hjk : j = k
        · subst hjk; exact hjun
        · rw [getD_set_ne true hjk] at hun; exact hun
      have hs : ((listed.setIfInBounds i true).setIfInBounds j true).getD s false = (listed.setIfInBounds j true).getD s false := by
        rw [Array.setIfInBounds_comm _ _ (fun e => hji e.symm), getD_set_ne false his]
      refine wpOp_mono (fun a' w' h3 => ⟨fun hl => h3.2.1 (by rw [hs]; exact hl), ih (listed.setIfInBounds j true) a' w' hfree' (ready_mono hr (Ne.symm hji)) (fun hl => h3.2.1 (by rw [hs]; exact hl)) h3.1 ?_⟩) h2
      rw [Array.setIfInBounds_comm _ _ hji]
      exact h3.2.2
variable {s fuel : Nat} {listed : Array Bool}
/-- The operation o yields v, whatever the world. -/
def YP (P : Program) (N : Nat) (F : List (Nat × En)) (o : Oper) (v : Value) : Prop := ∀ a w, FrOk N F a → (execOp a.eval o).run P w = .ok (.value v) w
theorem YP.of {o : Oper} {v : Value} (h : ∀ w, YV P N w [] F true o v) : YP P N F o v := fun a w ha => h w a w ha rfl (KOk.start w)
theorem hx_pure {o : Oper} {v : Value} (i : Nat) (hi : ops[i]? = some o) (hs : (Region.noSelect ops && Region.free .any ops listed i && (Region.ready .any ops listed).contains i && !(Nat.beq i s)) = true)
    (hg : o.guard = none) (hd : o.dst = some d) (hN : d < N) (hy : YP P N F o v) (hK : listed.getD s false = true ∨ KSub K Kp) (hr : HX P N w0 ops Q s Kp fuel (listed.setIfInBounds i true) ((d, .pl v) :: F) K) : HX P N w0 ops Q s Kp (fuel + 1) listed F K := fun a w ha hw => by
  simp only [Bool.and_eq_true, Bool.not_eq_true'] at hs
  obtain ⟨⟨⟨h1, h2⟩, h3⟩, h5⟩ := hs
  refine wpAnyS_pure (i := i) (v := v) hi (Region.noSelect_spec h1) (fun _ _ _ h => h.elim) (fun e => by subst e; simp at h5) fuel listed a w (Region.free_spec hi h2) (by simpa using h3) (fun hl => hK.elim (fun e => by rw [e] at hl; cases hl) (fun e => hw.sub e)) (Or.inl ⟨by simp [Region.wanted, hg], fun w _ => hy a w ha⟩) ?_
  rw [hd]
  exact hr _ _ (ha.put d (.pl v) v hN rfl) hw
theorem hg_pure {o : Oper} {i : Nat} {is : List Nat} {v : Value} (hd : o.dst = some d) (hN : d < N) (hg : o.guard = none) (hy : YP P N F o v) (hs : (Region.noSelect ops && Region.free .any ops (lst ops.size (i :: is)) i && (Region.ready .any ops (lst ops.size (i :: is))).contains i && !(Nat.beq i s)) = true) (hK : (lst ops.size (i :: is)).getD s false = true ∨ KSub K Kp) (hr : HG P N w0 ops Q (.x s Kp is) rest ((d, .pl v) :: F) K) : HG P N w0 ops Q (.x s Kp (i :: is)) (o :: rest) F K := by
  intro hGa hnd
  obtain ⟨h1, h2, h3⟩ := gath_step hGa
  have hr' := hr h3 (List.nodup_cons.1 hnd).2
  rw [← lst_set h2 hnd] at hr'
  exact hx_pure i h1 hs hg hd hN hy hK hr'
end
section
variable {P : Program} {N : Nat} {w0 : World} {K Kp : List Ck} {F : List (Nat × En)} {Q : Exit → Act → World → Prop} {ops : Array Oper} {rest : List Oper} {d : Nat} {o : Oper} {v : Value}
theorem qp {s i : Nat} {is : List Nat} (hr : HG P N w0 ops Q (.x s Kp is) rest ((d, .pl v) :: F) K) (hd : o.dst = some d := by rfl) (hN : d < N := by decide) (hg : o.guard = none := by rfl) (hy : ∀ w, YV P N w [] F true o v := by first | exact fun _ => a_move | exact fun _ => a_assign | exact fun _ => a_extract) (hs : (Region.noSelect ops && Region.free .any ops (lst ops.size (i :: is)) i && (Region.ready .any ops (lst ops.size (i :: is))).contains i && !(Nat.beq i s)) = true := by decide +kernel) (hK : (lst ops.size (i :: is)).getD s false = true ∨ KSub K Kp := by first | exact Or.inr ks | exact Or.inl (by decide +kernel)) : HG P N w0 ops Q (.x s Kp (i :: is)) (o :: rest) F K := hg_pure hd hN hg (YP.of hy) hs hK hr
/-- A region that draws its order: up to the operation s all chunks stay. -/
theorem dxs [M : Mx P] (s : Nat) {i : Nat} {l l' : List Oper} (is : List Nat) (h : HG P N w0 l.toArray Q (.x s K is) l' F K) (hg : Gath l is l' := by (repeat (first | exact Gath.nil | (apply Gath.cons; rfl))); first | done | fail) (hn : is.Nodup := by decide) (hl : is.length = l.length := by rfl) (hb : (List.range l.length).all (fun j => inB is j) = true := by rfl) : HC P N w0 (.region i l.toArray true) Q F K := dxk K s is h hg hn hl hb
end
end E
end Go.Proofs.YtpiiapoafmnhhaaGreat
