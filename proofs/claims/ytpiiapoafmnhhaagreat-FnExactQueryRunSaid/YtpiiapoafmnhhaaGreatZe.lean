/- A label's bytes, as the program reads them. -/
import Derived.Test.YtpiiapoafmnhhaaGreatM15
import Derived.Test.YtpiiapoafmnhhaaGreatUg
namespace Go.Proofs.YtpiiapoafmnhhaaGreat
namespace E
open Go Go.RowKit
set_option linter.unusedSimpArgs false
set_option linter.unusedVariables false
set_option maxHeartbeats 1000000
set_option maxRecDepth 10000
attribute [local irreducible] HC HL HQ HX HO At Y YV Opd Opds KnX Sl Ld Src GV RV Calls Code.wp eptr adr RdF ownF OneX HG LdC
instance bp_an5 (a : Bool) (p n : Prop) [h : BP a p n] : BP (a && !false) p n := ⟨fun e => h.t (by simpa using e), fun e => h.f (by simpa using e)⟩
instance bp_an6 (a : Bool) : BP (a && !true) False True := ⟨fun h => (by simp at h), fun _ => trivial⟩
/-- A row of a node, as it lies there. -/
structure RwR where
  code : Int
  s : Sv
  fr : Int
  to : Int
instance : Flat RwR := ⟨4, fun x => [.int .i64 x.code, .slice x.s.a x.s.n x.s.c, .int .i64 x.fr, .int .i64 x.to], fun _ => rfl, fun _ u h => by simp only [List.mem_cons, List.mem_nil_iff, or_false] at h; (repeat' (rcases h with rfl | h)) <;> first | rfl | (subst h; rfl)⟩
instance (c fr to : Int) (A : Option Addr) (n cp : Nat) : MkI RwR [.int .i64 c, .slice A n cp, .int .i64 fr, .int .i64 to] ⟨c, ⟨A, n, cp⟩, fr, to⟩ := ⟨rfl⟩
instance : ElT Tryz.prog 131 RwR := ⟨trivial⟩
instance : Nst Rw RwR Int := ⟨(·.s), (·.jn), fun x d => x.code = d.code ∧ x.fr = (d.fr : Int) ∧ x.to = (d.to : Int)⟩
section
variable {D R β : Type} [N : Nst D R β]
theorem Match.snoc1 {xs : List R} {ds : List D} {x : R} {d : D} (h : Match xs ds) (hx : N.eqv x d) : Match (xs ++ [x]) (ds ++ [d]) := by
  have h1 : (ds ++ [d]).take ds.length = ds := List.take_left
  have h2 : (ds ++ [d]).take (ds.length + 1) = ds ++ [d] := by rw [List.take_of_length_le (by simp)]
  have := Match.snoc (xs := xs) (ds := ds ++ [d]) (k := ds.length) (d := d) (x := x) (by rw [h1]; exact h) (by simp) hx
  rwa [h2] at this
theorem inn_snoc1 [Flat β] {e : TypeId} {xs : List R} {ds : List D} {x : R} {d : D} (h : Match xs ds) : inn e (xs ++ [x]) (ds ++ [d]) = inn e xs ds ++ [ownF e (.slice (N.sv x).a (N.sv x).n (N.sv x).c) (N.ls d)] := by
  unfold inn
  rw [List.zip_append h.1]
  simp
theorem inn_mem [Flat β] {e : TypeId} {xs : List R} {ds : List D} {i : Nat} {x : R} {d : D} (hx : xs[i]? = some x) (hd : ds[i]? = some d) : ownF e (.slice (N.sv x).a (N.sv x).n (N.sv x).c) (N.ls d) ∈ inn e xs ds := by
  unfold inn
  refine List.mem_map.2 ⟨(x, d), ?_, rfl⟩
  refine List.mem_of_getElem? (i := i) ?_
  rw [List.getElem?_zip_eq_some]
  exact ⟨hx, hd⟩
end
theorem c_rrowS {g : Nat} {s : ByteArray} {p : Nat} {f : Bool} {w0 : World} {K : List Ck} (w : World) (hw : KOk w0 (.box g 176 [.string s, .int .i64 (p : Int), .bool f] :: K) w) (hs : s.size ≤ 4000000 := by omega) (hp : p ≤ s.size := by omega) :
    Calls Tryz.prog 153 #[.pointer (some ⟨g, 0, none⟩)] w (RetK (fun z : Sv => .slice z.a z.n z.c) (fun z => ownF 3 (.slice z.a z.n z.c) (rwR (bn s) p f).1 :: .box g 176 [.string s, .int .i64 ((rwR (bn s) p f).2.1 : Int), .bool (rwR (bn s) p f).2.2] :: K) w0) := (c_rrow w hw).mono fun en w' ⟨v, he, hk⟩ => by
  obtain ⟨v, hv⟩ := v
  obtain ⟨s, rfl⟩ := ownF_sv (List.mem_cons_self) hk
  exact ⟨s, he, hk⟩
theorem ks_fst {L M : List Ck} : KSub (L ++ M) L := KSub.ofPermG L (L ++ M) M (List.Perm.refl _)
def clO (o : Option Cls) : Cls := o.getD ⟨[], 0, []⟩
/-- What a reading of a label's bytes leaves. -/
abbrev ClT (o : Option Cls) : Type := V1 × V1 × { xs : List RwR // Match xs (clO o).rows }
theorem c_classRead {s : ByteArray} (w : World) (hs : s.size ≤ 4000000 := by omega) :
    Calls Tryz.prog 96 #[.string s] w (Ret (fun z : ClT (clR (bn s)) => .tuple #[.agg #[z.1.1, .int .i64 ((clO (clR (bn s))).hd : Int), z.2.1.1], .bool (clR (bn s)).isSome]) (fun z => ownF 3 z.1.1 (clO (clR (bn s))).nums :: ownF 131 z.2.1.1 z.2.2.1 :: inn 3 z.2.2.1 (clO (clR (bn s))).rows) w) := by
  have hA : ∀ (g : Nat) (w0 : World) (K : List Ck) (w : World), KOk w0 (.box g 176 [.string s, .int .i64 0, .bool false] :: K) w → Calls Tryz.prog 153 #[.pointer (some ⟨g, 0, none⟩)] w (RetK (fun z : V1 => z.1) (fun z => ownF 3 z.1 (rwR (bn s) 0 false).1 :: .box g 176 [.string s, .int .i64 ((rwR (bn s) 0 false).2.1 : Int), .bool (rwR (bn s) 0 false).2.2] :: K) w0) := fun g w0 K w hw => c_rrow (p := 0) (f := false) w hw
  have hlA := rwR_len (s := s) (p := 0) (f := false) (Nat.zero_le _)
  have hR : clR (bn s) = (let a := rwR (bn s) 0 false; let c := nmR (bn s) a.2.1 a.2.2; let t := rsR (bn s) c.1 c.2.1 (c.2.2 || decide (14 < c.1)); if t.2.2 = false ∧ t.2.1 = (bn s).length then some ⟨a.1, a.2.1, t.1⟩ else none) := rfl
  rcases ea : rwR (bn s) 0 false with ⟨l0, p0, f0⟩
  rw [ea] at hA hlA hR
  dsimp only at hA hlA hR
  obtain ⟨hl1, hl2, _⟩ := hlA
  have hB : ∀ (g : Nat) (w0 : World) (K : List Ck) (w : World), KOk w0 (.box g 176 [.string s, .int .i64 (p0 : Int), .bool f0] :: K) w → Calls Tryz.prog 154 #[.pointer (some ⟨g, 0, none⟩)] w (RetK (fun _ : Unit => .int .i64 ((nmR (bn s) p0 f0).1 : Int)) (fun _ => .box g 176 [.string s, .int .i64 ((nmR (bn s) p0 f0).2.1 : Int), .bool (nmR (bn s) p0 f0).2.2] :: K) w0) := fun g w0 K w hw => c_rnum w hw
  have hlB := nmR_bd (s := s) (p := p0) (f := f0) hl2
  rcases eb : nmR (bn s) p0 f0 with ⟨n, p1, f1⟩
  rw [eb] at hB hlB hR
  dsimp only at hB hlB hR
  obtain ⟨hn1, hn2, hn3⟩ := hlB
  rw [bn_len] at hR
  generalize clR (bn s) = R at *
  by_cases hbig : 14 < n
  · rw [decide_eq_true hbig, Bool.or_true, rsR_t] at hR
    simp only [Bool.true_eq_false, false_and, if_false] at hR
    subst hR
    refine enter (args := _) Tryz.func96 rfl Tryz.ntmps96 (by simp) ?_
    refine E.nl 3 (α := Int) ?_
    refine E.nl 131 (α := RwR) ?_
    refine E.nl 131 (α := RwR) ?_
    repeat' (first | refine E.st ?_ | refine E.al (fun _ => ?_) | refine E.ckq (h := fun w hw => hA _ _ _ w hw) (k := fun z => E.wy z.2 (fun _ => ?_)) | refine E.ckq (h := fun w hw => hB _ _ _ w hw) (k := fun _ => ?_) | refine E.q3 ?_ | refine E.q ?_ | refine E.qs ?_ | refine E.q2 ?_ | refine E.q4 ?_ | refine E.tr ?_ | refine E.ap (fun _ _ => ?_) | refine E.b1 (fun _ _ => ?_) | refine E.b0 (fun _ _ => ?_) | refine E.bsn (fun _ _ => ?_) | refine E.mk (fun _ _ => ?_) | refine E.bxO (fun _ => ?_) | refine E.al (fun _ => ?_) | refine E.sbO ?_ | refine E.dq ?_ | refine E.ct ?_ | refine E.cf ?_ | refine E.cs (fun hh => ?_) (fun hh => ?_) | refine E.at_block_other rfl ?_)
    refine lq (fun _ : Unit => True) (fun _ => []) (fun _ => []) (fun _ => 0) () trivial (fun _ _ => ?_)
    repeat' (first | refine E.st ?_ | refine E.sk ?_ | refine E.ug ?_ | refine E.q3 ?_ | refine E.q ?_ | refine E.qs ?_ | refine E.q2 ?_ | refine E.q4 ?_ | refine E.tr ?_ | refine E.ap (fun _ _ => ?_) | refine E.b1 (fun _ _ => ?_) | refine E.b0 (fun _ _ => ?_) | refine E.bsn (fun _ _ => ?_) | refine E.mk (fun _ _ => ?_) | refine E.bxO (fun _ => ?_) | refine E.al (fun _ => ?_) | refine E.sbO ?_ | refine E.dq ?_ | refine E.ct ?_ | refine E.cf ?_ | refine E.cs (fun hh => ?_) (fun hh => ?_) | refine E.at_block_other rfl ?_)
    all_goals first
      | exact rn (α := ClT none) (⟨.slice none 0 0, rfl⟩, ⟨.slice none 0 0, rfl⟩, ⟨[], Match.nil⟩) (hK := ksv)
      | (exfalso; simp at hh; done)
      | (exfalso; simp at hh; omega)
      | trace_state
  · rw [decide_eq_false hbig, Bool.or_false] at hR
    generalize hT : rsR (bn s) n p1 f1 = T at hR
    refine enter (args := _) Tryz.func96 rfl Tryz.ntmps96 (by simp) ?_
    refine E.nl 3 (α := Int) ?_
    refine E.nl 131 (α := RwR) ?_
    refine E.nl 131 (α := RwR) ?_
    repeat' (first | refine E.st ?_ | refine E.al (fun _ => ?_) | refine E.ckq (h := fun w hw => hA _ _ _ w hw) (k := fun z => E.wy z.2 (fun _ => ?_)) | refine E.ckq (h := fun w hw => hB _ _ _ w hw) (k := fun _ => ?_) | refine E.q3 ?_ | refine E.q ?_ | refine E.qs ?_ | refine E.q2 ?_ | refine E.q4 ?_ | refine E.tr ?_ | refine E.ap (fun _ _ => ?_) | refine E.b1 (fun _ _ => ?_) | refine E.b0 (fun _ _ => ?_) | refine E.bsn (fun _ _ => ?_) | refine E.mk (fun _ _ => ?_) | refine E.bxO (fun _ => ?_) | refine E.al (fun _ => ?_) | refine E.sbO ?_ | refine E.dq ?_ | refine E.ct ?_ | refine E.cf ?_ | refine E.cs (fun hh => ?_) (fun hh => ?_) | refine E.at_block_other rfl ?_)
    rename_i g2 g4 g5 _ _
    refine lq (fun y : Nat × Nat × Bool × V1 × List RwR × List Rw => y.1 ≤ n ∧ y.2.1 ≤ s.size ∧ y.2.2.2.2.1.length = y.1 ∧ Match y.2.2.2.2.1 y.2.2.2.2.2 ∧ T = (y.2.2.2.2.2 ++ (rsR (bn s) (n - y.1) y.2.1 y.2.2.1).1, (rsR (bn s) (n - y.1) y.2.1 y.2.2.1).2)) (fun y => [(7, .pl (.int .i64 (y.1 : Int)))]) (fun y => .box g5 127 [z.1, .int .i64 (p0 : Int), y.2.2.2.1.1] :: .box g4 176 [.string s, .int .i64 (y.2.1 : Int), .bool y.2.2.1] :: ownF 131 y.2.2.2.1.1 y.2.2.2.2.1 :: inn 3 y.2.2.2.2.1 y.2.2.2.2.2) (fun y => n - y.1) (0, p1, f1, ⟨.slice none 0 0, rfl⟩, [], []) ⟨Nat.zero_le _, hn2, rfl, Match.nil, by simp [hT]⟩ (fun y hy => ?_)
    obtain ⟨k, q, fl, ⟨v, hv⟩, xs, ds⟩ := y
    obtain ⟨hk, hq, hxl, hM, hE⟩ := hy
    dsimp only at hk hq hxl hM hE hv ⊢
    simp only [List.cons_append]
    have hexit : T = (ds, q, fl) → (fl = true ∨ n ≤ k) → True := fun _ _ => trivial
    cases fl with
    | true =>
      rw [rsR_t, List.append_nil] at hE
      subst hE
      simp only [Bool.true_eq_false, false_and, if_false] at hR
      subst hR
      repeat' (first | refine E.st ?_ | refine E.sk ?_ | refine E.ug ?_ | refine E.q3 ?_ | refine E.q ?_ | refine E.qs ?_ | refine E.q2 ?_ | refine E.q4 ?_ | refine E.tr ?_ | refine E.ap (fun _ _ => ?_) | refine E.b1 (fun _ _ => ?_) | refine E.b0 (fun _ _ => ?_) | refine E.bsn (fun _ _ => ?_) | refine E.mk (fun _ _ => ?_) | refine E.bxO (fun _ => ?_) | refine E.al (fun _ => ?_) | refine E.sbO ?_ | refine E.dq ?_ | refine E.ct ?_ | refine E.cf ?_ | refine E.cs (fun hh => ?_) (fun hh => ?_) | refine E.at_block_other rfl ?_)
      all_goals first
        | exact rn (α := ClT none) (⟨.slice none 0 0, rfl⟩, ⟨.slice none 0 0, rfl⟩, ⟨[], Match.nil⟩) (hK := ksv)
        | (exfalso; simp at hh; done)
        | (exfalso; simp at hh; omega)
        | trace_state
    | false =>
      rcases Nat.lt_or_ge k n with hlt | hge
      · have hC : ∀ (g : Nat) (w0 : World) (K : List Ck) (w : World), KOk w0 (.box g 176 [.string s, .int .i64 (q : Int), .bool false] :: K) w → Calls Tryz.prog 154 #[.pointer (some ⟨g, 0, none⟩)] w (RetK (fun _ : Unit => .int .i64 ((nmR (bn s) q false).1 : Int)) (fun _ => .box g 176 [.string s, .int .i64 ((nmR (bn s) q false).2.1 : Int), .bool (nmR (bn s) q false).2.2] :: K) w0) := fun g w0 K w hw => c_rnum w hw
        have hlC := nmR_bd (s := s) (p := q) (f := false) hq
        rcases ec : nmR (bn s) q false with ⟨m, q1, f2⟩
        rw [ec] at hC hlC
        dsimp only at hC hlC
        obtain ⟨hm1, hm2, hm3⟩ := hlC
        have hD : ∀ (g : Nat) (w0 : World) (K : List Ck) (w : World), KOk w0 (.box g 176 [.string s, .int .i64 (q1 : Int), .bool f2] :: K) w → Calls Tryz.prog 153 #[.pointer (some ⟨g, 0, none⟩)] w (RetK (fun z : Sv => .slice z.a z.n z.c) (fun z => ownF 3 (.slice z.a z.n z.c) (rwR (bn s) q1 f2).1 :: .box g 176 [.string s, .int .i64 ((rwR (bn s) q1 f2).2.1 : Int), .bool (rwR (bn s) q1 f2).2.2] :: K) w0) := fun g w0 K w hw => c_rrowS w hw
        have hlD := rwR_len (s := s) (p := q1) (f := f2) hm2
        rcases ed : rwR (bn s) q1 f2 with ⟨l, q2, f3⟩
        rw [ed] at hD hlD
        dsimp only at hD hlD
        obtain ⟨hd1, hd2, hd3⟩ := hlD
        rw [show n - k = (n - (k + 1)) + 1 from by omega, rsR_s _ _ q ec ed] at hE
        repeat' (first | refine E.st ?_ | refine E.al (fun _ => ?_) | refine E.ckq (h := fun w hw => hC _ _ _ w hw) (k := fun _ => ?_) | refine E.ckq (h := fun w hw => hD _ _ _ w hw) (k := fun zj => ?_) | refine E.q3 ?_ | refine E.q ?_ | refine E.qs ?_ | refine E.q2 ?_ | refine E.q4 ?_ | refine E.tr ?_ | refine E.ap (fun _ _ => ?_) | refine E.b1 (fun _ _ => ?_) | refine E.b0 (fun _ _ => ?_) | refine E.bsn (fun _ _ => ?_) | refine E.mk (fun _ _ => ?_) | refine E.bxO (fun _ => ?_) | refine E.al (fun _ => ?_) | refine E.sbO ?_ | refine E.dq ?_ | refine E.ct ?_ | refine E.cf ?_ | refine E.cs (fun hh => ?_) (fun hh => ?_) | refine E.at_block_other rfl ?_)
        all_goals first
          | (refine rd (α := Nat × Nat × Bool × V1 × List RwR × List Rw) (k + 1, q2, f3, ⟨_, by assumption⟩, xs ++ [⟨(m : Int), zj, (q : Int), (q2 : Int)⟩], ds ++ [⟨(m : Int), l, q, q2⟩]) ⟨hlt, hd2, by dsimp only; rw [List.length_append]; simp; omega, hM.snoc1 ⟨rfl, rfl, rfl⟩, by rw [hE]; simp⟩ (by dsimp only; omega) (hK := ?_)
             dsimp only
             rw [inn_snoc1 hM]
             exact KSub.pick pk (KSub.pick pk (KSub.ownF pk rfl (KSub.drop1 (KSub.drop1 ks_snoc)))))
          | (exfalso; simp at hh; done)
          | (exfalso; simp at hh; omega)
          | trace_state
      · rw [show n - k = 0 from by omega, rsR_0, List.append_nil] at hE
        subst hE
        dsimp only at hR
        by_cases hqs : q = s.size
        · rw [if_pos ⟨rfl, hqs⟩] at hR
          subst hR
          repeat' (first | refine E.st ?_ | refine E.sk ?_ | refine E.ug ?_ | refine E.q3 ?_ | refine E.q ?_ | refine E.qs ?_ | refine E.q2 ?_ | refine E.q4 ?_ | refine E.tr ?_ | refine E.ap (fun _ _ => ?_) | refine E.b1 (fun _ _ => ?_) | refine E.b0 (fun _ _ => ?_) | refine E.bsn (fun _ _ => ?_) | refine E.mk (fun _ _ => ?_) | refine E.bxO (fun _ => ?_) | refine E.al (fun _ => ?_) | refine E.sbO ?_ | refine E.dq ?_ | refine E.ct ?_ | refine E.cf ?_ | refine E.cs (fun hh => ?_) (fun hh => ?_) | refine E.at_block_other rfl ?_)
          all_goals first
            | exact rn (α := ClT (some ⟨l0, p0, ds⟩)) (z, ⟨v, hv⟩, ⟨xs, hM⟩) (hK := by refine KSub.pick pk ?_; refine KSub.pick pk ?_; repeat (first | exact ks_fst | refine KSub.drop1 ?_))
            | (exfalso; simp at hh; done)
            | (exfalso; simp at hh; omega)
            | trace_state
        · rw [if_neg (fun h => hqs h.2)] at hR
          subst hR
          repeat' (first | refine E.st ?_ | refine E.sk ?_ | refine E.ug ?_ | refine E.q3 ?_ | refine E.q ?_ | refine E.qs ?_ | refine E.q2 ?_ | refine E.q4 ?_ | refine E.tr ?_ | refine E.ap (fun _ _ => ?_) | refine E.b1 (fun _ _ => ?_) | refine E.b0 (fun _ _ => ?_) | refine E.bsn (fun _ _ => ?_) | refine E.mk (fun _ _ => ?_) | refine E.bxO (fun _ => ?_) | refine E.al (fun _ => ?_) | refine E.sbO ?_ | refine E.dq ?_ | refine E.ct ?_ | refine E.cf ?_ | refine E.cs (fun hh => ?_) (fun hh => ?_) | refine E.at_block_other rfl ?_)
          all_goals first
            | exact rn (α := ClT none) (⟨.slice none 0 0, rfl⟩, ⟨.slice none 0 0, rfl⟩, ⟨[], Match.nil⟩) (hK := ksv)
            | (exfalso; simp at hh; done)
            | (exfalso; simp at hh; omega)
            | trace_state
end E
end Go.Proofs.YtpiiapoafmnhhaaGreat
