/- What the program's lists of codes are (plain). -/
import Derived.Test.YtpiiapoafmnhhaaGreatZb
import Derived.Test.YtpiiapoafmnhhaaGreatMh
import Derived.Test.YtpiiapoafmnhhaaGreatM12
import Derived.Lib.AppendStr
import Derived.Lib.ConvBytes
namespace Go.Proofs.YtpiiapoafmnhhaaGreat
namespace E
open Go Go.Lib
set_option linter.unusedVariables false
theorem mem_cmp {d : Array Int} {x : Int} : ∀ {m : Nat}, m ≤ d.size → (x ∈ compactUpTo d m ↔ x ∈ d.toList.take m)
  | 0, _ => by simp [compactUpTo]
  | m + 1, hm => by
    have hg : d.toList[m]? = some d[m]! := by
      rw [Array.getElem?_toList, Array.getElem?_eq_getElem (by omega), getElem!_pos d m (by omega)]
    rw [compactUpTo_succ, List.take_add_one, hg, List.mem_append, List.mem_append, mem_cmp (by omega)]
    cases hk : keeps d m with
    | true => simp
    | false =>
      simp only [keeps, decide_eq_false_iff_not, not_or, Decidable.not_not] at hk
      obtain ⟨h0, h1⟩ := hk
      simp only [Bool.false_eq_true, if_false, List.not_mem_nil, or_false, Option.toList_some, List.mem_singleton]
      constructor
      · exact Or.inl
      · rintro (h | rfl)
        · exact h
        · refine List.mem_of_getElem? (i := m - 1) ?_
          rw [List.getElem?_take_of_lt (by omega), h1, Array.getElem?_toList, Array.getElem?_eq_getElem (by omega), getElem!_pos d (m - 1) (by omega)]
theorem cmp_sorted {d : Array Int} (h : d.toList.Pairwise (· ≤ ·)) : ∀ {m : Nat}, m ≤ d.size → (compactUpTo d m).Pairwise (· < ·)
  | 0, _ => by simp [compactUpTo]
  | m + 1, hm => by
    have ih := cmp_sorted h (m := m) (by omega)
    rw [compactUpTo_succ]
    cases hk : keeps d m with
    | false => simpa using ih
    | true =>
      rw [if_pos rfl]
      refine List.pairwise_append.2 ⟨ih, List.pairwise_singleton _ _, fun a ha b hb => ?_⟩
      rw [List.mem_singleton] at hb
      subst hb
      have ha2 := (mem_cmp (by omega)).1 ha
      obtain ⟨i, hi⟩ := List.mem_iff_getElem?.1 ha2
      have him : i < m := by
        have := (List.getElem?_eq_some_iff.1 hi).1
        simp at this; omega
      rw [List.getElem?_take_of_lt him, Array.getElem?_toList, Array.getElem?_eq_getElem (by omega)] at hi
      injection hi with hi
      have le : ∀ i j : Nat, i < j → j < d.size → d[i]! ≤ d[j]! := fun i j hij hj => by
        have := List.pairwise_iff_getElem.1 h i j (by simp; omega) (by simpa using hj) hij
        simp only [Array.getElem_toList] at this
        rw [getElem!_pos d i (by omega), getElem!_pos d j hj]; exact this
      have hi2 : d[i]! = a := by rw [getElem!_pos d i (by omega)]; exact hi
      simp only [keeps, decide_eq_true_eq] at hk
      have h1 := le i m him (by omega)
      rcases Nat.lt_or_ge i (m - 1) with h4 | h4
      · have h5 := le i (m - 1) h4 (by omega)
        have h6 := le (m - 1) m (by omega) (by omega)
        rcases hk with hk | hk
        · omega
        · omega
      · have : i = m - 1 := by omega
        subst this
        rcases hk with hk | hk
        · omega
        · omega
theorem compact_mem {xs : List Int} {x : Int} : x ∈ compact xs ↔ x ∈ xs := by
  unfold compact
  rw [mem_cmp (by simp)]
  simp
theorem compact_up {xs : List Int} (h : xs.Pairwise (· ≤ ·)) : (compact xs).Pairwise (· < ·) := cmp_sorted (d := xs.toArray) (by simpa using h) (by simp)
theorem srt_perm (xs : List Int) : (srt xs).Perm xs := List.mergeSort_perm xs _
theorem srt_le (xs : List Int) : (srt xs).Pairwise (· ≤ ·) := by
  have := List.pairwise_mergeSort (le := fun x y : Int => decide (x ≤ y)) (fun a b c h1 h2 => by simp only [decide_eq_true_eq] at *; omega) (fun a b => by simp only [Bool.or_eq_true, decide_eq_true_eq]; omega) xs
  exact this.imp (fun h => by simpa using h)
/-! ### The nodes of a label's edges -/
def endC (a : Int) (e : Eg) : List Int := if e.l = a then [cd e.a, cd e.b] else []
theorem endC_len (a : Int) : ∀ es : List Eg, (es.flatMap (endC a)).length ≤ 2 * es.length
  | [] => by simp
  | e :: es => by
    have := endC_len a es
    have h : (endC a e).length ≤ 2 := by unfold endC; split <;> simp
    simp only [List.flatMap_cons, List.length_append, List.length_cons]
    omega
theorem flatMap_take {α β : Type} (f : α → List β) {xs : List α} {k : Nat} {x : α} (h : xs[k]? = some x) : (xs.take (k + 1)).flatMap f = (xs.take k).flatMap f ++ f x := by
  rw [List.take_add_one, h, List.flatMap_append]
  simp
theorem ends_eq {es : List Eg} (he : ∀ e ∈ es, eok e = true) (a : Int) : compact (srt (es.flatMap (endC a))) = (endN (onlyE es a)).map cd := by
  have heo : ∀ e ∈ onlyE es a, eok e = true := fun e h => he e (List.mem_filter.1 h).1
  refine sorted_ext id (compact_up (srt_le _)) ?_ (fun x => ?_)
  · rw [List.pairwise_map]
    exact (ord_endN heo).2
  · rw [compact_mem, (srt_perm _).mem_iff, List.mem_flatMap, List.mem_map]
    constructor
    · rintro ⟨e, h1, h2⟩
      unfold endC at h2
      split at h2
      · rename_i hl
        have hm : e ∈ onlyE es a := List.mem_filter.2 ⟨h1, by simpa using hl⟩
        simp only [List.mem_cons, List.not_mem_nil, or_false] at h2
        rcases h2 with rfl | rfl
        · exact ⟨e.a, mem_endN.2 ⟨e, hm, Or.inl rfl⟩, rfl⟩
        · exact ⟨e.b, mem_endN.2 ⟨e, hm, Or.inr rfl⟩, rfl⟩
      · cases h2
    · rintro ⟨n, h1, rfl⟩
      obtain ⟨e, h2, h3⟩ := mem_endN.1 h1
      obtain ⟨h4, h5⟩ := List.mem_filter.1 h2
      refine ⟨e, h4, ?_⟩
      unfold endC
      rw [if_pos (by simpa using h5)]
      rcases h3 with rfl | rfl <;> simp
/-! ### What the edges of a label join to a node -/
def joinC (a : Int) (n : Nd) (e : Eg) : List Int := if e.l = a then (if cd n = cd e.a then [cd e.b] else if cd n = cd e.b then [cd e.a] else []) else []
theorem joinC_len1 (a : Int) (n : Nd) (e : Eg) : (joinC a n e).length ≤ 1 := by
  unfold joinC; split
  · split
    · simp
    · split <;> simp
  · simp
theorem joinC_len (a : Int) (n : Nd) : ∀ es : List Eg, (es.flatMap (joinC a n)).length ≤ es.length
  | [] => by simp
  | e :: es => by
    have := joinC_len a n es
    have h := joinC_len1 a n e
    simp only [List.flatMap_cons, List.length_append, List.length_cons]
    omega
theorem joinC_mem {a : Int} {n : Nd} {e : Eg} {x : Int} (he : eok e = true) (hn : nok n = true) : x ∈ joinC a n e ↔ e.l = a ∧ ∃ m, other e n = some m ∧ cd m = x := by
  obtain ⟨p1, p2, p3, p4, _⟩ := eok_parts he
  unfold joinC other
  by_cases hl : e.l = a
  · rw [if_pos hl]
    by_cases h1 : cd n = cd e.a
    · have h1' : e.a = n := (cd_inj hn p2 h1).symm
      rw [if_pos h1, if_pos h1']
      simp [hl, eq_comm]
    · have h1' : ¬ e.a = n := fun h => h1 (by rw [h])
      rw [if_neg h1, if_neg h1']
      by_cases h2 : cd n = cd e.b
      · have h2' : e.b = n := (cd_inj hn p3 h2).symm
        rw [if_pos h2, if_pos h2']
        simp [hl, eq_comm]
      · have h2' : ¬ e.b = n := fun h => h2 (by rw [h])
        rw [if_neg h2, if_neg h2']
        simp
  · rw [if_neg hl]
    simp [hl]
theorem joined_eq {g : Gr} (hg : g.ok) (a : Int) {n : Nd} (hn : nok n = true) : srt (g.es.flatMap (joinC a n)) = jnL (onlyE g.es a) n := by
  have he : ∀ e ∈ g.es, eok e = true := fun e h => (hg.2.1 e h).1
  have heo : ∀ e ∈ onlyE g.es a, eok e = true := fun e h => he e (List.mem_filter.1 h).1
  have hnd : (g.es.flatMap (joinC a n)).Nodup := by
    refine pw_flatMap (R := fun x y => ekey x < ekey y) _ hg.2.2.1 (fun e h => ?_) (fun x hx y hy hlt u hu v hv => ?_)
    · have := joinC_len1 a n e
      match joinC a n e, this with
      | [], _ => exact List.Pairwise.nil
      | [_], _ => exact List.pairwise_singleton _ _
      | _ :: _ :: _, h => simp at h
    · intro huv
      subst huv
      have q1 := (eok_parts (he x hx)).2.2.2.1
      have q2 := (eok_parts (he y hy)).2.2.2.1
      unfold joinC at hu hv
      split at hu
      · split at hv
        · rename_i l1 l2
          unfold ekey at hlt
          split at hu
          · split at hv
            · simp only [List.mem_singleton] at hu hv; omega
            · split at hv
              · simp only [List.mem_singleton] at hu hv; omega
              · cases hv
          · split at hu
            · split at hv
              · simp only [List.mem_singleton] at hu hv; omega
              · split at hv
                · simp only [List.mem_singleton] at hu hv; omega
                · cases hv
            · cases hu
        · cases hv
      · cases hu
  refine sorted_ext id ?_ ?_ (fun x => ?_)
  · have h1 := srt_le (g.es.flatMap (joinC a n))
    have h2 : (srt (g.es.flatMap (joinC a n))).Nodup := (srt_perm _).nodup_iff.2 hnd
    exact List.Pairwise.imp₂ (fun a b h3 h4 => by show a < b; omega) h1 h2
  · unfold jnL
    rw [List.pairwise_map]
    exact (ord_nearL heo).2
  · rw [(srt_perm _).mem_iff, List.mem_flatMap]
    unfold jnL
    rw [List.mem_map]
    constructor
    · rintro ⟨e, h1, h2⟩
      obtain ⟨h3, m, h4, h5⟩ := (joinC_mem (he e h1) hn).1 h2
      exact ⟨m, mem_nearL.2 ⟨e, List.mem_filter.2 ⟨h1, by simpa using h3⟩, h4⟩, h5⟩
    · rintro ⟨m, h1, h2⟩
      obtain ⟨e, h3, h4⟩ := mem_nearL.1 h1
      obtain ⟨h5, h6⟩ := List.mem_filter.1 h3
      exact ⟨e, h5, (joinC_mem (he e h5) hn).2 ⟨by simpa using h6, m, h4, h2⟩⟩
end E
end Go.Proofs.YtpiiapoafmnhhaaGreat
/- Bytes that a conversion made: a row of the call's own, behind whose end a mark may stand. -/
namespace Go.Proofs.YtpiiapoafmnhhaaGreat
namespace E
open Go Go.RowKit Go.Lib
set_option linter.unusedSimpArgs false
set_option linter.unusedVariables false
theorem run_storeCells_atZ (P : Program) (g o : Nat) (t : TypeId) (fz : Nat × Nat) : ∀ (vs : List Value) (i : Nat) (cur : Array Value) (w : World), w.heap[g]? = some (.cells cur t fz) → (fz = (0, 0) ∨ cur.size ≤ fz.1) → o + i + vs.length ≤ cur.size → (∀ v ∈ vs, v.oneCell' = true) →
    (storeCells ⟨g, o, none⟩ vs i).run P w = .ok () (w.setRow g (cur.toList.take (o + i) ++ vs ++ cur.toList.drop (o + i + vs.length)).toArray)
  | [], i, cur, w, hg, _, _, _ => by
    simp only [storeCells, List.append_nil, List.length_nil, Nat.add_zero, List.take_append_drop, Array.toArray_toList]
    rw [setRow_self w g cur t fz hg]
    rfl
  | v :: rest, i, cur, w, hg, hfz, hl, h1 => by
    have hi : o + i < cur.size := by simp at hl; omega
    have hadd : (⟨g, o, none⟩ : Addr).add i = ⟨g, o + i, none⟩ := by unfold Addr.add; split <;> simp_all
    have hcell : w.cell? ⟨g, o + i, none⟩ = some cur[o + i] := by simp [World.cell?, hg, hi]
    have hfro : w.frozen? ⟨g, o + i, none⟩ = false := by
      obtain ⟨lo, hi'⟩ := fz
      simp only [World.frozen?, hg, Bool.and_eq_false_iff, decide_eq_false_iff_not]
      rcases hfz with hfz | hfz
      · injection hfz with h2 h3; subst h2; subst h3; right; omega
      · left; dsimp only at hfz; omega
    have hst : (store ((⟨g, o, none⟩ : Addr).add i) v).run P w = .ok () (w.setRow g (cur.setIfInBounds (o + i) v)) := by
      rw [hadd, run_store P w _ v _ (h1 v (by simp)), hcell]
      simp [hfro, setCell_eq_setRow w g (o + i) cur t fz v hg]
    have ih := run_storeCells_atZ P g o t fz rest (i + 1) (cur.setIfInBounds (o + i) v) (w.setRow g (cur.setIfInBounds (o + i) v)) (setRow_heap w g cur _ t _ hg) (by simpa using hfz) (by simp at hl ⊢; omega) (fun x hx => h1 x (by simp [hx]))
    simp only [storeCells, Sem.run_bind, hst, Result.andThen_ok, ih, setRow_setRow]
    congr 3
    have e := list_seg_step cur.toList (o + i) v rest (by simp at hl ⊢; omega)
    simpa [Array.toList_setIfInBounds, Nat.add_assoc] using e
theorem run_append_roomZ {P : Program} {w : World} (t ty e : TypeId) (i : TypeInfo) (ht : P.underlying t = some (.slice e)) (hi : P.info? e = some i) (hs1 : i.size = 1)
    (g sLen sCap : Nat) (cur : Array Value) (fz : Nat × Nat) (hg : w.heap[g]? = some (.cells cur e fz)) (hfz : fz = (0, 0) ∨ cur.size ≤ fz.1)
    (a : Addr) (m c : Nat) (news : List Value) (hl : news.length = m) (hnews : ∀ j u, news[j]? = some u → w.cell? (a.add j) = some u) (h1 : ∀ u ∈ news, u.oneCell' = true)
    (hroom : sLen + m ≤ sCap) (hfit : sLen + news.length ≤ cur.size) :
    (Builtin.append_ #[t, t] ty #[.slice (some ⟨g, 0, none⟩) sLen sCap, .slice (some a) m c]).run P w =
      .ok (.slice (some ⟨g, 0, none⟩) (sLen + m) sCap) (w.setRow g (cur.toList.take sLen ++ news ++ cur.toList.drop (sLen + news.length)).toArray) := by
  have hf := run_firstCells_some (P := P) w 1 m a m c news (by rw [Nat.mul_one]; exact hl) hnews
  have hst := run_storeCells_atZ P g sLen e fz news 0 cur w hg hfz (by simpa using hfit) h1
  simp only [Nat.add_zero] at hst
  simp [Builtin.append_, run_underlying ht, sizeOf, typeInfo, hi, hs1, Builtin.lenOf, hroom, hf, Addr.add_lit, hst]
theorem run_append_room_stringZ {P : Program} {w : World} (t u ty e : TypeId) (i : TypeInfo) (ht : P.underlying t = some (.slice e)) (hu : P.underlying u = some .string) (hi : P.info? e = some i) (hs1 : i.size = 1)
    (g sLen sCap : Nat) (cur : Array Value) (fz : Nat × Nat) (hg : w.heap[g]? = some (.cells cur e fz)) (hfz : fz = (0, 0) ∨ cur.size ≤ fz.1) (s : ByteArray)
    (hroom : sLen + s.size ≤ sCap) (hfit : sLen + s.size ≤ cur.size) :
    (Builtin.append_ #[t, u] ty #[.slice (some ⟨g, 0, none⟩) sLen sCap, .string s]).run P w =
      .ok (.slice (some ⟨g, 0, none⟩) (sLen + s.size) sCap) (w.setRow g (cur.toList.take sLen ++ strCells s ++ cur.toList.drop (sLen + s.size)).toArray) := by
  have hf := run_firstCells_string (P := P) w 1 s
  have hst := run_storeCells_atZ P g sLen e fz (strCells s) 0 cur w hg hfz (by simpa [strCells_length] using hfit) (strCells_oneCell s)
  simp only [Nat.add_zero, strCells_length] at hst
  simp [Builtin.append_, run_underlying ht, run_underlying hu, sizeOf, typeInfo, hi, hs1, Builtin.lenOf, hroom, hf, Addr.add_lit, hst]
def zOk (e : TypeId) (cap : Nat) (xs : List UInt8) : Obj → Prop := fun o => ∃ cur fz, o = .cells cur e fz ∧ (fz = (0, 0) ∨ cur.size ≤ fz.1) ∧ xs.length ≤ cap ∧ cap ≤ maxLen ∧ cur.size = cap ∧ cur.toList.take xs.length = cells xs
/-- A row of bytes of the call's own. -/
def ownZ (e : TypeId) (g cap : Nat) (xs : List UInt8) : Ck := .any g (zOk e cap xs)
theorem k8 : Flat.k UInt8 = 1 := rfl
theorem cells8 (xs : List UInt8) : (cells xs).length = xs.length := by rw [cells_length, k8, Nat.mul_one]
theorem zOk.cell {w : World} {e : TypeId} {g cap : Nat} {xs : List UInt8} {o : Obj} (ho : w.heap[g]? = some o) (h : zOk e cap xs o) : ∀ j u, (cells xs)[j]? = some u → w.cell? ((⟨g, 0, none⟩ : Addr).add j) = some u := by
  intro j u hu
  obtain ⟨cur, fz, rfl, _, _, _, _, htk⟩ := h
  have hadd : (⟨g, 0, none⟩ : Addr).add j = ⟨g, j, none⟩ := by unfold Addr.add; split <;> simp_all
  rw [hadd, cell_of_row w g j cur e fz ho]
  rw [← htk, List.getElem?_take] at hu
  split at hu
  · simpa using hu
  · cases hu
theorem RdF.ofZ {w0 w : World} {K : List Ck} {e : TypeId} {g cap : Nat} {xs : List UInt8} (hK : KOk w0 K w) (hm : ownZ e g cap xs ∈ K := by exact mm) : RdF w (.slice (some ⟨g, 0, none⟩) xs.length cap) xs := by
  have h := hK.holds _ hm
  have hlt := Ck.lt h g rfl
  obtain ⟨hB, o, ho, hz⟩ := h
  have hc := hz.cell ho
  obtain ⟨cur, fz, rfl, _, h3, h4, _, _⟩ := hz
  exact ⟨⟨_, _, rfl, h3, h4, fun _ => ⟨_, rfl⟩⟩, by rw [cells_length], fun _ => hlt.2, hc⟩
theorem RdIn.z {w0 : World} {K : List Ck} {e : TypeId} {g cap : Nat} {xs : List UInt8} (hm : ownZ e g cap xs ∈ K := by exact mm) : RdIn w0 K (.slice (some ⟨g, 0, none⟩) xs.length cap) xs := fun w hw => RdF.ofZ hw hm
theorem KOk.turn_any {w0 w w' : World} {K : List Ck} {g : Nat} {p p' : Obj → Prop} (h : KOk w0 (.any g p :: K) w) (hg : w.grownBy w' (some g)) (ho : ∃ o, w'.heap[g]? = some o ∧ p' o) : KOk w0 (.any g p' :: K) w' :=
  h.turn rfl hg ⟨(h.holds _ List.mem_cons_self).1, ho⟩ (Or.inl rfl)
theorem strCells_bs (l : List Nat) : strCells (bs l) = cells (b8 l) := by
  rw [cells_u8]
  simp [strCells, bs, b8, List.map_map]
section
variable {P : Program} {N : Nat} {w0 : World} {K K' : List Ck} {F : List (Nat × En)} {Q : Exit → Act → World → Prop} {ops : Array Oper} {rest : List Oper} {d : Nat} {ty : TypeId} {pos : String} {af : Array Edge} {m m' : Md} {x y : Operand} {t t' e : TypeId} {v u : Value} {Kn : Act → World → Prop}
theorem ho_s2b {l : List Nat} [T : TStr P t] [T' : TSlc P t' e] [T8 : TInt P e .u8] (hN : d < N) (hx : Opd N F true x (.string (bs l))) (hl : l.length ≤ maxLen) (hr : ∀ g cap, At N w0 Kn ((d, .pl (.slice (some ⟨g, 0, none⟩) (b8 l).length cap)) :: F) (ownZ e g cap (b8 l) :: K)) :
    HO P N w0 Q ⟨some d, .convert t t' x, ty, pos, af, none⟩ Kn F K := fun a w ha hw => by
  have hsz : (bs l).size = (b8 l).length := by rw [bs_size, b8_len]
  have hrun : (convert t t' (.string (bs l))).run P w = .ok (.slice (some ⟨w.heap.size, 0, none⟩) (b8 l).length (grownCap w (bs l).size 0 e)) (bytesWorld w e (bs l)) := by
    rw [← hsz]
    exact Go.Lib.run_convert_string_bytes (P := P) w t t' e (bs l) T.is T'.is T8.is
  have hge := grownCap_ge w (bs l).size 0 e
  have hcm : grownCap w (bs l).size 0 e ≤ maxLen := grownCap_le_maxLen w (bs l).size 0 e (by rw [bs_size]; exact hl)
  have hb : Below w.heap.size w (bytesWorld w e (bs l)) := ⟨rfl, rfl, rfl, by rw [bytesWorld_size]; omega, fun k hk => bytesWorld_at_old w e (bs l) k hk⟩
  have hcs : (bytesCells w e (bs l)).size = grownCap w (bs l).size 0 e := by
    have : (bs l).data.size = (bs l).size := rfl
    simp only [bytesCells, Array.size_append, Array.size_map, Array.size_replicate, this]
    omega
  have hp : KOk w0 (ownZ e w.heap.size (grownCap w (bs l).size 0 e) (b8 l) :: K) (bytesWorld w e (bs l)) := hw.push hb _ ⟨hw.below.size, _, bytesWorld_at_new w e (bs l), _, _, rfl, Or.inr (Nat.le_refl _), by rw [← hsz]; exact hge, hcm, hcs, by
      have h2 := strCells_bs l
      have h3 : (bytesCells w e (bs l)).toList = strCells (bs l) ++ List.replicate (grownCap w (bs l).size 0 e - (bs l).size) (.int .u8 0) := by
        simp [bytesCells, strCells]
      rw [h3, h2, ← cells8]
      exact List.take_left⟩ (fun g hg => by simp only [Ck.blk, ownZ, Option.some.injEq] at hg; omega)
  refine ho_val _ _ ?_ (hr w.heap.size (grownCap w (bs l).size 0 e) _ _ (ha.put d (.pl _) _ hN rfl) hp)
  simp [execOp, hx a ha rfl, hrun, En.val]
theorem grow8 {w w1 : World} {g cap g' cap' : Nat} {xs ys : List UInt8} {news : List Value} {z : Value} (hz : z.cells.size = 1) (hw : KOk w0 K w) (hl : news = cells ys) (hm : xs.length + ys.length ≤ maxLen) :
    KOk w0 (ownZ e w.heap.size (grownCap w (xs.length + ys.length) cap e) (xs ++ ys) :: K) (w.drew.alloc (.cells ((cells xs).toArray ++ news.toArray ++ Builtin.zeroCells z.cells (grownCap w (xs.length + ys.length) cap e - (xs.length + ys.length))) e)) := by
  subst hl
  have hge := grownCap_ge w (xs.length + ys.length) cap e
  have hcm : grownCap w (xs.length + ys.length) cap e ≤ maxLen := grownCap_le_maxLen w (xs.length + ys.length) cap e hm
  have hb : Below w.heap.size w (w.drew.alloc (.cells ((cells xs).toArray ++ (cells ys).toArray ++ Builtin.zeroCells z.cells (grownCap w (xs.length + ys.length) cap e - (xs.length + ys.length))) e)) := ⟨rfl, rfl, rfl, by simp, fun k hk => heap_alloc_old w.drew _ hk⟩
  refine hw.push hb _ ⟨hw.below.size, _, heap_alloc_new w.drew _, _, _, rfl, Or.inl rfl, by rw [List.length_append]; exact hge, hcm, ?_, ?_⟩ (fun g hg => by simp only [Ck.blk, ownZ, Option.some.injEq] at hg; omega)
  · simp only [Array.size_append, List.size_toArray, size_zeroCells, hz, cells8]
    omega
  · simp only [Array.toList_append, List.append_assoc]
    rw [← List.append_assoc, ← cells_append, ← cells8]
    exact List.take_left
theorem room8 {w : World} {g cap : Nat} {xs ys : List UInt8} {cur : Array Value} {fz : Nat × Nat} (hw : KOk w0 (ownZ e g cap xs :: K) w) (hh : w.heap[g]? = some (.cells cur e fz)) (hfz : fz = (0, 0) ∨ cur.size ≤ fz.1) (hcm : cap ≤ maxLen) (hcs : cur.size = cap) (htk : cur.toList.take xs.length = cells xs) (hroom : xs.length + ys.length ≤ cap) :
    KOk w0 (ownZ e g cap (xs ++ ys) :: K) (w.setRow g (cur.toList.take xs.length ++ cells ys ++ cur.toList.drop (xs.length + ys.length)).toArray) := by
  refine KOk.turn_any hw ⟨rfl, rfl, rfl, by simp, fun k _ hk => setRow_other w g k _ (fun e => hk (by simp [e]))⟩ ⟨_, setRow_heap w g cur _ e _ hh, _, _, rfl, ?_, by rw [List.length_append]; exact hroom, hcm, ?_, ?_⟩
  · rcases hfz with h | h
    · exact Or.inl h
    · right
      simp only [List.size_toArray, List.length_append, List.length_take, List.length_drop, Array.length_toList, cells8]
      omega
  · simp only [List.size_toArray, List.length_append, List.length_take, List.length_drop, Array.length_toList, cells8]
    omega
  · rw [htk, ← cells_append, ← cells8]
    exact List.take_left
theorem ho_apZ {g cap : Nat} {xs ys : List UInt8} [T : TSlc P t e] [R : TRow P e 1 1] (hN : d < N) (hx : Opd N F true x (.slice (some ⟨g, 0, none⟩) xs.length cap)) (hy : Opd N F true y u)
    (hp : Pick K (ownZ e g cap xs) K') (hs : RdIn w0 K' u ys) (hb : xs.length + ys.length ≤ 1000000000)
    (hr : ∀ g' cap', At N w0 Kn ((d, .pl (.slice (some ⟨g', 0, none⟩) (xs ++ ys).length cap')) :: F) (ownZ e g' cap' (xs ++ ys) :: K')) :
    HO P N w0 Q ⟨some d, .call { callee := .builtin .append, args := #[x, y], argTypes := #[t, t] }, ty, pos, af, none⟩ Kn F K := fun a w ha hw => by
  have hw' := hw.pick hp
  obtain ⟨hB, o, ho, hz⟩ := hw'.holds _ List.mem_cons_self
  have hcell := hz.cell ho
  obtain ⟨cur, fz, rfl, hfz, hnc, hcm, hcs, htk⟩ := hz
  obtain ⟨i, z, hi, hiz, hsz, hby, hzs, hpos⟩ := R.row
  have hrd := hs w hw'.drop
  obtain ⟨A, c, rfl, h1, h2, hA⟩ := hrd.sl
  have hyc : (cells ys).length = ys.length := cells8 ys
  have hone : ∀ u ∈ cells ys, u.oneCell' = true := cells_one ys
  have hle : xs.length + ys.length ≤ maxLen := by simp only [maxLen]; omega
  cases A with
  | none =>
    have h0 : ys.length = 0 := by
      rcases Nat.eq_zero_or_pos ys.length with h0 | h0
      · exact h0
      · obtain ⟨a, h⟩ := hA h0; cases h
    have : ys = [] := List.eq_nil_of_length_eq_zero h0
    subst this
    rw [List.append_nil] at hr
    refine ho_val _ w ?_ (hr g cap _ _ (ha.put d (.pl _) _ hN rfl) hw')
    simp [execOp, resolve, invoke, builtin, hx a ha rfl, hy a ha rfl, Builtin.append_, run_underlying T.is, sizeOf, typeInfo, hi, Builtin.lenOf, Builtin.firstCells, hnc, storeCells, En.val]
  | some ad =>
    by_cases hroom : xs.length + ys.length ≤ cap
    · have hrun := run_append_roomZ (P := P) (w := w) t ty e i T.is hi hsz g xs.length cap cur fz ho hfz ad ys.length c (cells ys) hyc hrd.cell hone hroom (by omega)
      rw [hyc] at hrun
      refine ho_val _ _ ?_ (hr g cap _ _ (ha.put d (.pl _) _ hN rfl) (room8 hw' ho hfz hcm hcs htk hroom))
      simp [execOp, resolve, invoke, builtin, hx a ha rfl, hy a ha rfl, hrun, En.val]
    · have hrun := run_append_grow (P := P) w t ty e i z T.is hi hiz ⟨g, 0, none⟩ xs.length cap (cells xs) (by rw [hsz, Nat.mul_one, cells8]) hcell ad ys.length c (cells ys) (by rw [hsz, Nat.mul_one, cells8]) hrd.cell (by omega) (by omega) (growslice_fits (by omega) (by rw [hby]; omega))
      refine ho_val _ _ ?_ (hr w.heap.size (grownCap w (xs.length + ys.length) cap e) _ _ (ha.put d (.pl _) _ hN rfl) (grow8 (w1 := w) (g := g) (g' := g) (cap' := cap) hzs hw'.drop rfl hle))
      simp [execOp, resolve, invoke, builtin, hx a ha rfl, hy a ha rfl, hrun, En.val]
theorem ho_apS {g cap : Nat} {xs : List UInt8} {l : List Nat} [T : TSlc P t e] [S : TStr P t'] [R : TRow P e 1 1] (hN : d < N) (hx : Opd N F true x (.slice (some ⟨g, 0, none⟩) xs.length cap)) (hy : Opd N F true y (.string (bs l)))
    (hp : Pick K (ownZ e g cap xs) K') (hb : xs.length + l.length ≤ 1000000000)
    (hr : ∀ g' cap', At N w0 Kn ((d, .pl (.slice (some ⟨g', 0, none⟩) (xs ++ b8 l).length cap')) :: F) (ownZ e g' cap' (xs ++ b8 l) :: K')) :
    HO P N w0 Q ⟨some d, .call { callee := .builtin .append, args := #[x, y], argTypes := #[t, t'] }, ty, pos, af, none⟩ Kn F K := fun a w ha hw => by
  have hw' := hw.pick hp
  obtain ⟨hB, o, ho, hz⟩ := hw'.holds _ List.mem_cons_self
  have hcell := hz.cell ho
  obtain ⟨cur, fz, rfl, hfz, hnc, hcm, hcs, htk⟩ := hz
  obtain ⟨i, z, hi, hiz, hsz, hby, hzs, hpos⟩ := R.row
  have hbl : (b8 l).length = (bs l).size := by rw [bs_size, b8_len]
  have hll : (bs l).size = l.length := bs_size l
  have hle : xs.length + (b8 l).length ≤ maxLen := by simp only [maxLen]; omega
  by_cases hroom : xs.length + (bs l).size ≤ cap
  · have hrun := run_append_room_stringZ (P := P) (w := w) t t' ty e i T.is S.is hi hsz g xs.length cap cur fz ho hfz (bs l) hroom (by omega)
    rw [strCells_bs, ← hbl] at hrun
    refine ho_val _ _ ?_ (hr g cap _ _ (ha.put d (.pl _) _ hN rfl) (room8 hw' ho hfz hcm hcs htk (by rw [hbl]; exact hroom)))
    simp [execOp, resolve, invoke, builtin, hx a ha rfl, hy a ha rfl, hrun, En.val]
  · have hrun := run_append_grow_string (P := P) w t t' ty e i z T.is S.is hi hiz ⟨g, 0, none⟩ xs.length cap (cells xs) (by rw [hsz, Nat.mul_one, cells8]) hcell (bs l) (by omega) (by omega) (growslice_fits (by omega) (by rw [hby]; omega))
    rw [strCells_bs, ← hbl] at hrun
    refine ho_val _ _ ?_ (hr w.heap.size (grownCap w (xs.length + (b8 l).length) cap e) _ _ (ha.put d (.pl _) _ hN rfl) (grow8 (w1 := w) (g := g) (g' := g) (cap' := cap) hzs hw'.drop rfl hle))
    simp [execOp, resolve, invoke, builtin, hx a ha rfl, hy a ha rfl, hrun, En.val]
/-! ### The rules -/
theorem s2b {l : List Nat} [T : TStr P t] [T' : TSlc P t' e] [T8 : TInt P e .u8] (hr : ∀ g cap, HG P N w0 ops Q m' rest ((d, .pl (.slice (some ⟨g, 0, none⟩) (b8 l).length cap)) :: F) (ownZ e g cap (b8 l) :: K)) (hN : d < N := by decide) (hx : Opd N F true x (.string (bs l)) := by exact Opd.pl rfl) (hl : l.length ≤ maxLen := by simp only [maxLen]; omega) (hX : NX m m' := by first | exact NX.l | exact NX.q | exact NX.x _ _ _ _ | exact NX.y _ _ _ _) (hA : KA ops m := by first | exact KA.l | exact KA.y | exact KA.x (by decide +kernel)) (hB : ∀ (z : Nat × Nat), KB ops m (ownZ e z.1 z.2 (b8 l) :: K) := by first | exact fun _ => KB.l | exact fun _ => KB.x (Or.inr ks) | exact fun _ => KB.x (Or.inl (by decide +kernel))) :
    HG P N w0 ops Q m (⟨some d, .convert t t' x, ty, pos, af, none⟩ :: rest) F K := hgo (Fi := fun z : Nat × Nat => (d, .pl (.slice (some ⟨z.1, 0, none⟩) (b8 l).length z.2)) :: F) (Ki := fun z : Nat × Nat => ownZ e z.1 z.2 (b8 l) :: K) hA hB hX rfl (fun z => hr z.1 z.2) (fun Q' Kn hk => ho_s2b hN hx hl (fun g cap => hk (g, cap)))
theorem apZ {g cap : Nat} {xs ys : List UInt8} [T : TSlc P t e] [R : TRow P e 1 1] (hr : ∀ g' cap', HG P N w0 ops Q m' rest ((d, .pl (.slice (some ⟨g', 0, none⟩) (xs ++ ys).length cap')) :: F) (ownZ e g' cap' (xs ++ ys) :: K')) (hN : d < N := by decide) (hx : Opd N F true x (.slice (some ⟨g, 0, none⟩) xs.length cap) := by exact Opd.pl rfl) (hy : Opd N F true y u := by exact Opd.pl rfl) (hp : Pick K (ownZ e g cap xs) K' := by exact pk) (hs : RdIn w0 K' u ys := by exact rdI) (hb : xs.length + ys.length ≤ 1000000000 := by first | omega | (simp only [List.length_append, List.length_cons, List.length_nil] at *; omega)) (hX : NX m m' := by first | exact NX.l | exact NX.q | exact NX.x _ _ _ _ | exact NX.y _ _ _ _) (hA : KA ops m := by first | exact KA.l | exact KA.y | exact KA.x (by decide +kernel)) (hB : ∀ (z : Nat × Nat), KB ops m (ownZ e z.1 z.2 (xs ++ ys) :: K') := by first | exact fun _ => KB.l | exact fun _ => KB.x (Or.inr ks) | exact fun _ => KB.x (Or.inl (by decide +kernel))) :
    HG P N w0 ops Q m (⟨some d, .call { callee := .builtin .append, args := #[x, y], argTypes := #[t, t] }, ty, pos, af, none⟩ :: rest) F K := hgo (Fi := fun z : Nat × Nat => (d, .pl (.slice (some ⟨z.1, 0, none⟩) (xs ++ ys).length z.2)) :: F) (Ki := fun z : Nat × Nat => ownZ e z.1 z.2 (xs ++ ys) :: K') hA hB hX rfl (fun z => hr z.1 z.2) (fun Q' Kn hk => ho_apZ hN hx hy hp hs hb (fun g' cap' => hk (g', cap')))
theorem apS {g cap : Nat} {xs : List UInt8} {l : List Nat} [T : TSlc P t e] [S : TStr P t'] [R : TRow P e 1 1] (hr : ∀ g' cap', HG P N w0 ops Q m' rest ((d, .pl (.slice (some ⟨g', 0, none⟩) (xs ++ b8 l).length cap')) :: F) (ownZ e g' cap' (xs ++ b8 l) :: K')) (hN : d < N := by decide) (hx : Opd N F true x (.slice (some ⟨g, 0, none⟩) xs.length cap) := by exact Opd.pl rfl) (hy : Opd N F true y (.string (bs l)) := by exact Opd.pl rfl) (hp : Pick K (ownZ e g cap xs) K' := by exact pk) (hb : xs.length + l.length ≤ 1000000000 := by omega) (hX : NX m m' := by first | exact NX.l | exact NX.q | exact NX.x _ _ _ _ | exact NX.y _ _ _ _) (hA : KA ops m := by first | exact KA.l | exact KA.y | exact KA.x (by decide +kernel)) (hB : ∀ (z : Nat × Nat), KB ops m (ownZ e z.1 z.2 (xs ++ b8 l) :: K') := by first | exact fun _ => KB.l | exact fun _ => KB.x (Or.inr ks) | exact fun _ => KB.x (Or.inl (by decide +kernel))) :
    HG P N w0 ops Q m (⟨some d, .call { callee := .builtin .append, args := #[x, y], argTypes := #[t, t'] }, ty, pos, af, none⟩ :: rest) F K := hgo (Fi := fun z : Nat × Nat => (d, .pl (.slice (some ⟨z.1, 0, none⟩) (xs ++ b8 l).length z.2)) :: F) (Ki := fun z : Nat × Nat => ownZ e z.1 z.2 (xs ++ b8 l) :: K') hA hB hX rfl (fun z => hr z.1 z.2) (fun Q' Kn hk => ho_apS hN hx hy hp hb (fun g' cap' => hk (g', cap')))
end
set_option linter.unusedSimpArgs false
set_option linter.unusedVariables false
set_option maxHeartbeats 1000000
set_option maxRecDepth 10000
attribute [local irreducible] HC HL HQ HX HO At Y YV Opd Opds KnX Sl Ld Src GV RV Calls Code.wp eptr adr RdF ownF OneX HG LdC
theorem c_appendNumZ {g cap : Nat} {xs : List UInt8} {n : Int} {w0 : World} {K : List Ck} (w : World) (hw : KOk w0 (ownZ 5 g cap xs :: K) w) (hn : -9000000000000000000 ≤ n ∧ n ≤ 9000000000000000000 := by omega) (hl : xs.length ≤ 10000000 := by omega) :
    Calls Tryz.prog 149 #[.slice (some ⟨g, 0, none⟩) xs.length cap, .int .i64 n] w (RetK (fun z : Nat × Nat => .slice (some ⟨z.1, 0, none⟩) (xs ++ b8 (numB n)).length z.2) (fun z => ownZ 5 z.1 z.2 (xs ++ b8 (numB n)) :: K) w0) := by
  by_cases h0 : n < 0 ∨ 16383 < n
  · have e : xs ++ b8 (numB n) = xs := by
      have : numB n = [] := if_pos h0
      rw [this]; simp [b8]
    rw [e]
    refine enterK (args := _) hw Tryz.func149 rfl Tryz.ntmps149 (by simp) ?_
    repeat' (first | refine E.st ?_ | refine E.q5 ?_ | refine E.q3 ?_ | refine E.q ?_ | refine E.qs ?_ | refine E.q2 ?_ | refine E.q4 ?_ | refine E.tr ?_ | refine E.ap (fun _ _ => ?_) | refine E.b1 (fun _ _ => ?_) | refine E.b0 (fun _ _ => ?_) | refine E.bsn (fun _ _ => ?_) | refine E.mk (fun _ _ => ?_) | refine E.bxO (fun _ => ?_) | refine E.al (fun _ => ?_) | refine E.sbO ?_ | refine E.dq ?_ | refine E.ct ?_ | refine E.cf ?_ | refine E.cs (fun hh => ?_) (fun hh => ?_) | refine E.at_block_other rfl ?_)
    all_goals first
      | exact r1K (α := Nat × Nat) (g, cap)
      | (exfalso; simp_all; done)
      | (exfalso; omega)
  · by_cases h1 : n < 128
    · have e : b8 (numB n) = [UInt8.ofInt n] := by
        have : numB n = [n.toNat] := by unfold numB; rw [if_neg h0, if_pos h1]
        rw [this, b8, List.map_cons, List.map_nil, u8_nat (z := n) (n := n.toNat) (by omega)]
      rw [e]
      refine enterK (args := _) hw Tryz.func149 rfl Tryz.ntmps149 (by simp) ?_
      repeat' (first | refine E.st ?_ | refine E.apZ (fun _ _ => ?_) | refine E.q5 ?_ | refine E.q3 ?_ | refine E.q ?_ | refine E.qs ?_ | refine E.q2 ?_ | refine E.q4 ?_ | refine E.tr ?_ | refine E.ap (fun _ _ => ?_) | refine E.b1 (fun _ _ => ?_) | refine E.b0 (fun _ _ => ?_) | refine E.bsn (fun _ _ => ?_) | refine E.mk (fun _ _ => ?_) | refine E.bxO (fun _ => ?_) | refine E.al (fun _ => ?_) | refine E.sbO ?_ | refine E.dq ?_ | refine E.ct ?_ | refine E.cf ?_ | refine E.cs (fun hh => ?_) (fun hh => ?_) | refine E.at_block_other rfl ?_)
      all_goals first
        | exact r1K (α := Nat × Nat) (_, _)
        | (exfalso; simp_all; done)
        | (exfalso; omega)
        | trace_state
    · have d1 : n.tdiv 128 = ((n.toNat / 128 : Nat) : Int) := by rw [Int.tdiv_eq_ediv_of_nonneg (by omega)]; omega
      have d2 : n.tmod 128 = ((n.toNat % 128 : Nat) : Int) := by rw [Int.tmod_eq_emod_of_nonneg (by omega)]; omega
      have e : b8 (numB n) = [UInt8.ofInt (IntKind.i64.wrap (128 + IntKind.i64.wrap (n.tdiv 128))), UInt8.ofInt (n.tmod 128)] := by
        have : numB n = [128 + n.toNat / 128, n.toNat % 128] := by unfold numB; rw [if_neg h0, if_neg h1]
        rw [this, b8, List.map_cons, List.map_cons, List.map_nil, d1, d2, wrap_i64_of (z := ((n.toNat / 128 : Nat) : Int)) (by omega), wrap_i64_of (z := 128 + ((n.toNat / 128 : Nat) : Int)) (by omega), u8_nat (z := 128 + ((n.toNat / 128 : Nat) : Int)) (n := 128 + n.toNat / 128) (by omega), u8_nat (z := ((n.toNat % 128 : Nat) : Int)) (n := n.toNat % 128) rfl]
      rw [e]
      refine enterK (args := _) hw Tryz.func149 rfl Tryz.ntmps149 (by simp) ?_
      repeat' (first | refine E.st ?_ | refine E.apZ (fun _ _ => ?_) | refine E.q5 ?_ | refine E.q3 ?_ | refine E.q ?_ | refine E.qs ?_ | refine E.q2 ?_ | refine E.q4 ?_ | refine E.tr ?_ | refine E.ap (fun _ _ => ?_) | refine E.b1 (fun _ _ => ?_) | refine E.b0 (fun _ _ => ?_) | refine E.bsn (fun _ _ => ?_) | refine E.mk (fun _ _ => ?_) | refine E.bxO (fun _ => ?_) | refine E.al (fun _ => ?_) | refine E.sbO ?_ | refine E.dq ?_ | refine E.ct ?_ | refine E.cf ?_ | refine E.cs (fun hh => ?_) (fun hh => ?_) | refine E.at_block_other rfl ?_)
      all_goals first
        | exact r1K (α := Nat × Nat) (_, _)
        | (exfalso; simp_all; done)
        | (exfalso; omega)
        | trace_state
end E
end Go.Proofs.YtpiiapoafmnhhaaGreat
