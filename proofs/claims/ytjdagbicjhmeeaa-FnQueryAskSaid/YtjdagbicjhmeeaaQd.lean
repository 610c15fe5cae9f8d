/- Numbers, rows and labels as bytes (plain). -/
import Derived.Test.YtjdagbicjhmeeaaQc
namespace Go.Proofs.Ytjdagbicjhmeeaa
namespace E
open Go
set_option linter.unusedVariables false
/-! ### Numbers and rows as bytes -/
def numB (n : Int) : List Nat := if n < 0 ∨ 16383 < n then [] else if n < 128 then [n.toNat] else [128 + n.toNat / 128, n.toNat % 128]
def numA (s : List Nat) (p : Nat) : Option (Nat × Nat) := match s[p]? with
  | none => none
  | some a => if a < 128 then some (a, p + 1) else match s[p + 1]? with
    | none => none
    | some b => if a = 128 ∨ 127 < b then none else some ((a - 128) * 128 + b, p + 2)
def up (list : List Int) : Prop := (∀ x ∈ list, 0 ≤ x ∧ x ≤ 16383) ∧ list.Pairwise (· < ·) ∧ list.length ≤ 127
instance (list : List Int) : Decidable (up list) := by unfold up; exact inferInstance
def gapB : Int → List Int → List Nat
  | _, [] => []
  | last, x :: xs => numB (x - last - 1) ++ gapB x xs
def rowB (list : List Int) : List Nat := if up list then numB list.length ++ gapB (-1) list else []
def gapA (s : List Nat) : Nat → Int → Nat → Option (List Int × Nat)
  | 0, _, p => some ([], p)
  | n + 1, last, p => match numA s p with
    | none => none
    | some (g, nx) => if 16383 < last + 1 + g then none else (gapA s n (last + 1 + g) nx).map (fun r => ((last + 1 + g) :: r.1, r.2))
def rowA (s : List Nat) (p : Nat) : Option (List Int × Nat) := match numA s p with
  | none => none
  | some (n, nx) => if 127 < n then none else gapA s n (-1) nx
theorem get_app {α : Type} {a b : List α} {x : α} {rest : List α} (h : b = x :: rest) : (a ++ b)[a.length]? = some x := by subst h; simp
theorem numA_at {s pre post : List Nat} {n : Int} (h : 0 ≤ n ∧ n ≤ 16383) (hs : s = pre ++ (numB n ++ post)) : numA s pre.length = some (n.toNat, pre.length + (numB n).length) := by
  subst hs
  unfold numB
  rw [if_neg (by omega)]
  by_cases h1 : n < 128
  · rw [if_pos h1]
    have e0 : (pre ++ ([n.toNat] ++ post))[pre.length]? = some n.toNat := get_app rfl
    unfold numA
    rw [e0]
    simp only []
    rw [if_pos (by omega)]
    simp
  · rw [if_neg h1]
    have e0 : (pre ++ ([128 + n.toNat / 128, n.toNat % 128] ++ post))[pre.length]? = some (128 + n.toNat / 128) := get_app rfl
    unfold numA
    rw [e0]
    simp only []
    rw [if_neg (by omega)]
    have e : (pre ++ ([128 + n.toNat / 128, n.toNat % 128] ++ post))[pre.length + 1]? = some (n.toNat % 128) := by
      rw [List.getElem?_append_right (by omega)]
      simp
    rw [e]
    simp only []
    rw [if_neg (by omega)]
    simp
    omega
theorem numB_pos {n : Int} (h : 0 ≤ n ∧ n ≤ 16383) : 1 ≤ (numB n).length ∧ (numB n).length ≤ 2 := by
  unfold numB
  rw [if_neg (by omega)]
  split <;> simp
theorem numB_le (n : Int) : (numB n).length ≤ 2 := by
  unfold numB
  split
  · simp
  · split <;> simp
theorem numB_byte (n : Int) : ∀ b ∈ numB n, b < 256 := by
  unfold numB
  split
  · simp
  · split
    · simp; omega
    · simp; omega
theorem gapA_at : ∀ (list : List Int) (last : Int) (s pre post : List Nat), -1 ≤ last → (∀ x ∈ list, last < x ∧ x ≤ 16383) → list.Pairwise (· < ·) → s = pre ++ (gapB last list ++ post) → gapA s list.length last pre.length = some (list, pre.length + (gapB last list).length)
  | [], last, s, pre, post, _, _, _, hs => by simp [gapA, gapB]
  | x :: xs, last, s, pre, post, hl, hb, hp, hs => by
    obtain ⟨h1, h2⟩ := List.pairwise_cons.1 hp
    have hx := hb x List.mem_cons_self
    simp only [gapB] at hs
    rw [List.append_assoc] at hs
    have hn := numA_at (n := x - last - 1) (by omega) hs
    simp only [List.length_cons, gapA, hn]
    have e : last + 1 + ((x - last - 1).toNat : Int) = x := by omega
    rw [e, if_neg (by omega)]
    have ih := gapA_at xs x s (pre ++ numB (x - last - 1)) post (by omega) (fun y hy => ⟨h1 y hy, (hb y (List.mem_cons_of_mem _ hy)).2⟩) h2 (by rw [hs, List.append_assoc])
    rw [List.length_append] at ih
    rw [ih]
    simp [gapB]
    omega
theorem rowA_at {s pre post : List Nat} {list : List Int} (h : up list) (hs : s = pre ++ (rowB list ++ post)) : rowA s pre.length = some (list, pre.length + (rowB list).length) := by
  obtain ⟨h1, h2, h3⟩ := h
  have hr : rowB list = numB list.length ++ gapB (-1) list := by unfold rowB; rw [if_pos ⟨h1, h2, h3⟩]
  rw [hr, List.append_assoc] at hs
  have hn := numA_at (n := list.length) (by omega) hs
  unfold rowA
  rw [hn]
  simp only [Int.toNat_natCast]
  rw [if_neg (by omega)]
  have := gapA_at list (-1) s (pre ++ numB list.length) post (by omega) (fun x hx => by have := h1 x hx; omega) h2 (by rw [hs, List.append_assoc])
  rw [List.length_append] at this
  rw [this, hr]
  simp
  omega
theorem gapB_byte : ∀ (last : Int) (list : List Int), ∀ b ∈ gapB last list, b < 256
  | _, [], b, h => by simp [gapB] at h
  | last, x :: xs, b, h => by
    simp only [gapB, List.mem_append] at h
    rcases h with h | h
    · exact numB_byte _ b h
    · exact gapB_byte x xs b h
theorem rowB_byte (list : List Int) : ∀ b ∈ rowB list, b < 256 := by
  unfold rowB
  split
  · intro b h
    rcases List.mem_append.1 h with h | h
    · exact numB_byte _ b h
    · exact gapB_byte _ _ b h
  · simp
theorem gapB_le : ∀ (last : Int) (list : List Int), (gapB last list).length ≤ 2 * list.length
  | _, [] => by simp [gapB]
  | last, x :: xs => by
    have := numB_le (x - last - 1)
    have := gapB_le x xs
    simp only [gapB, List.length_append, List.length_cons]
    omega
theorem rowB_le (list : List Int) : (rowB list).length ≤ 2 * list.length + 2 := by
  unfold rowB
  split
  · have := gapB_le (-1) list
    have := numB_le list.length
    rw [List.length_append]
    omega
  · simp
theorem rowB_pos {list : List Int} (h : up list) : 0 < (rowB list).length := by
  unfold rowB
  rw [if_pos h, List.length_append]
  have := (numB_pos (n := list.length) ⟨by omega, by have := h.2.2; omega⟩).1
  omega
/-! ### What there is of a label, as bytes -/
structure Rw where
  code : Int
  jn : List Int
  fr : Nat
  to : Nat
  deriving DecidableEq
structure Cls where
  nums : List Int
  hd : Nat
  rows : List Rw
def rowsA (s : List Nat) : Nat → Nat → Option (List Rw × Nat)
  | 0, p => some ([], p)
  | n + 1, p => match numA s p with
    | none => none
    | some (c, p1) => match rowA s p1 with
      | none => none
      | some (row, p2) => (rowsA s n p2).map (fun r => (⟨c, row, p, p2⟩ :: r.1, r.2))
def clsA (s : List Nat) : Option Cls := match rowA s 0 with
  | none => none
  | some (nums, h) => match numA s h with
    | none => none
    | some (n, p) => match rowsA s n p with
      | none => none
      | some (rows, q) => if q = s.length then some ⟨nums, h, rows⟩ else none
def onlyE (es : List Eg) (a : Int) : List Eg := es.filter (fun e => decide (e.l = a))
def endS (acc : List Nd) (e : Eg) : List Nd := addN (addN acc e.a) e.b
def endN (es : List Eg) : List Nd := es.foldl endS []
def numsL (ns : List Nd) (a : Int) : List Int := (ns.filter (fun x => decide (x.l = a))).map (fun x => x.n)
def jnL (es : List Eg) (n : Nd) : List Int := (nearL es n).map cd
def rowBy (es : List Eg) (n : Nd) : List Nat := numB (cd n) ++ rowB (jnL es n)
def segB (g : Gr) (a : Int) : List Nat :=
  if numsL g.ns a = [] ∧ endN (onlyE g.es a) = [] then [] else rowB (numsL g.ns a) ++ (numB (endN (onlyE g.es a)).length ++ (endN (onlyE g.es a)).flatMap (rowBy (onlyE g.es a)))
def rowPos (es : List Eg) : Nat → List Nd → List Rw
  | _, [] => []
  | p, n :: ns => ⟨cd n, jnL es n, p, p + (rowBy es n).length⟩ :: rowPos es (p + (rowBy es n).length) ns
def clsG (g : Gr) (a : Int) : Cls := ⟨numsL g.ns a, (rowB (numsL g.ns a)).length, rowPos (onlyE g.es a) ((rowB (numsL g.ns a)).length + (numB (endN (onlyE g.es a)).length).length) (endN (onlyE g.es a))⟩
theorem mem_endF : ∀ (es : List Eg) (acc : List Nd) (x : Nd), x ∈ es.foldl endS acc ↔ x ∈ acc ∨ ∃ e ∈ es, x = e.a ∨ x = e.b
  | [], acc, x => by simp
  | e :: es, acc, x => by
    rw [List.foldl_cons, mem_endF es]
    simp only [endS, mem_addN, List.mem_cons]
    constructor
    · rintro ((h | h | h) | ⟨e', h1, h2⟩)
      · exact Or.inr ⟨e, Or.inl rfl, Or.inr h⟩
      · exact Or.inr ⟨e, Or.inl rfl, Or.inl h⟩
      · exact Or.inl h
      · exact Or.inr ⟨e', Or.inr h1, h2⟩
    · rintro (h | ⟨e', h1 | h1, h2⟩)
      · exact Or.inl (Or.inr (Or.inr h))
      · subst h1
        rcases h2 with h2 | h2
        · exact Or.inl (Or.inr (Or.inl h2))
        · exact Or.inl (Or.inl h2)
      · exact Or.inr ⟨e', h1, h2⟩
theorem mem_endN {es : List Eg} {x : Nd} : x ∈ endN es ↔ ∃ e ∈ es, x = e.a ∨ x = e.b := by unfold endN; rw [mem_endF]; simp
theorem ord_endF : ∀ (es : List Eg) (acc : List Nd), (∀ e ∈ es, eok e = true) → Ord acc → Ord (es.foldl endS acc)
  | [], _, _, h => h
  | e :: es, acc, he, h => by
    obtain ⟨p1, p2, p3, _⟩ := eok_parts (he e List.mem_cons_self)
    rw [List.foldl_cons]
    exact ord_endF es _ (fun x hx => he x (List.mem_cons_of_mem _ hx)) ((h.addN p2).addN p3)
theorem ord_endN {es : List Eg} (h : ∀ e ∈ es, eok e = true) : Ord (endN es) := ord_endF es [] h ⟨by simp, by simp⟩
theorem len_addN (acc : List Nd) (m : Nd) : (addN acc m).length ≤ acc.length + 1 := by
  unfold addN
  split
  · omega
  · have := count_ins (fun _ => true) (fun x => decide (cd x < cd m)) acc m
    simp only [List.countP_true, if_true] at this
    unfold insN
    omega
theorem len_endF : ∀ (es : List Eg) (acc : List Nd), (es.foldl endS acc).length ≤ acc.length + 2 * es.length
  | [], acc => by simp
  | e :: es, acc => by
    have h1 := len_endF es (endS acc e)
    have h2 := len_addN (addN acc e.a) e.b
    have h3 := len_addN acc e.a
    rw [List.foldl_cons]
    simp only [endS, List.length_cons] at *
    omega
theorem len_endN (es : List Eg) : (endN es).length ≤ 2 * es.length := by have := len_endF es []; simpa [endN] using this
theorem onlyE_len {g : Gr} (h : g.ok) {a : Int} (ha : lok a = true) : (onlyE g.es a).length ≤ 7 := by
  have := h.2.2.2 a (mem_labs.2 (lok_iff.1 ha))
  rw [List.countP_eq_length_filter] at this
  exact this
theorem onlyE_eok {g : Gr} (h : g.ok) {a : Int} : ∀ e ∈ onlyE g.es a, eok e = true := fun e he => (h.2.1 e (List.mem_filter.1 he).1).1
theorem nums_len {g : Gr} (h : g.ok) {a : Int} (ha : lok a = true) : (numsL g.ns a).length ≤ 5 := by
  have := h.1.2.2 a (mem_labs.2 (lok_iff.1 ha))
  rw [List.countP_eq_length_filter] at this
  simpa [numsL] using this
theorem up_nums {g : Gr} (h : g.ok) {a : Int} (ha : lok a = true) : up (numsL g.ns a) := by
  refine ⟨fun x hx => ?_, ?_, by have := nums_len h ha; omega⟩
  · obtain ⟨n, hn, rfl⟩ := List.mem_map.1 hx
    have := nok_iff.1 (h.1.1 n (List.mem_filter.1 hn).1)
    omega
  · unfold numsL
    rw [List.pairwise_map]
    refine (h.1.2.1.filter _).imp_of_mem (fun {x y} hx hy hxy => ?_)
    simp only [List.mem_filter, decide_eq_true_eq] at hx hy
    rw [cd_ok (h.1.1 x hx.1), cd_ok (h.1.1 y hy.1)] at hxy
    omega
theorem up_jn {es : List Eg} (h : ∀ e ∈ es, eok e = true) {n : Nd} (hl : es.length ≤ 100) : up (jnL es n) := by
  have ho := ord_nearL (n := n) h
  refine ⟨fun x hx => ?_, ?_, ?_⟩
  · obtain ⟨m, hm, rfl⟩ := List.mem_map.1 hx
    have := cd_bd (ho.1 m hm)
    omega
  · unfold jnL
    rw [List.pairwise_map]
    exact ho.2
  · have : ∀ (es : List Eg) (acc : List Nd), (es.foldl (nearS n) acc).length ≤ acc.length + es.length := by
      intro es
      induction es with
      | nil => simp
      | cons e es ih =>
        intro acc
        have h1 := ih (nearS n acc e)
        have h2 : (nearS n acc e).length ≤ acc.length + 1 := by
          unfold nearS
          split
          · exact len_addN _ _
          · omega
        simp only [List.foldl_cons, List.length_cons]
        omega
    have := this es []
    simp only [jnL, List.length_map, nearL]
    simp at this
    omega
theorem rowsA_at {es : List Eg} (he : ∀ e ∈ es, eok e = true) (hl : es.length ≤ 100) : ∀ (ns : List Nd) (s pre post : List Nat), (∀ n ∈ ns, nok n = true) → s = pre ++ (ns.flatMap (rowBy es) ++ post) → rowsA s ns.length pre.length = some (rowPos es pre.length ns, pre.length + (ns.flatMap (rowBy es)).length)
  | [], s, pre, post, _, hs => by simp [rowsA, rowPos]
  | n :: ns, s, pre, post, hn, hs => by
    have hb := cd_bd (hn n List.mem_cons_self)
    simp only [List.flatMap_cons, List.append_assoc] at hs
    have h1 : s = pre ++ (numB (cd n) ++ (rowB (jnL es n) ++ (ns.flatMap (rowBy es) ++ post))) := by rw [hs]; simp [rowBy]
    have hA := numA_at (n := cd n) (by omega) h1
    have hR := rowA_at (pre := pre ++ numB (cd n)) (post := ns.flatMap (rowBy es) ++ post) (up_jn he (n := n) hl) (h1.trans (by rw [List.append_assoc]))
    have ih := rowsA_at he hl ns s (pre ++ rowBy es n) post (fun x hx => hn x (List.mem_cons_of_mem _ hx)) (by rw [hs, List.append_assoc])
    simp only [List.length_cons, rowsA, hA]
    rw [List.length_append] at hR
    rw [hR]
    simp only []
    have e : pre.length + (numB (cd n)).length + (rowB (jnL es n)).length = pre.length + (rowBy es n).length := by simp [rowBy]; omega
    rw [List.length_append] at ih
    have hcd : ((cd n).toNat : Int) = cd n := Int.toNat_of_nonneg hb.1
    rw [e, ih, hcd]
    simp only [Option.map_some, rowPos, List.length_append, List.flatMap_cons, Nat.add_assoc]
theorem clsA_seg {g : Gr} (h : g.ok) {a : Int} (ha : lok a = true) (hne : segB g a ≠ []) : clsA (segB g a) = some (clsG g a) := by
  have hseg : segB g a = rowB (numsL g.ns a) ++ (numB (endN (onlyE g.es a)).length ++ (endN (onlyE g.es a)).flatMap (rowBy (onlyE g.es a))) := by
    unfold segB at hne ⊢
    split
    · rename_i hh; rw [if_pos hh] at hne; exact absurd rfl hne
    · rfl
  have hl := onlyE_len h ha
  have hel := len_endN (onlyE g.es a)
  have h1 := rowA_at (s := segB g a) (pre := []) (up_nums h ha) (by rw [hseg]; rfl)
  have h2 := numA_at (s := segB g a) (pre := rowB (numsL g.ns a)) (n := (endN (onlyE g.es a)).length) (by omega) hseg
  have h3 := rowsA_at (es := onlyE g.es a) (onlyE_eok h) (by omega) (endN (onlyE g.es a)) (segB g a) (rowB (numsL g.ns a) ++ numB (endN (onlyE g.es a)).length) [] (fun n hn => (ord_endN (onlyE_eok h)).1 n hn) (by rw [hseg]; simp)
  unfold clsA
  simp only [List.length_nil, Nat.zero_add] at h1
  rw [h1]
  simp only []
  rw [h2]
  simp only [Int.toNat_natCast]
  rw [List.length_append] at h3
  rw [h3]
  simp only []
  rw [if_pos (by rw [hseg]; simp; omega)]
  rfl
theorem segB_byte (g : Gr) (a : Int) : ∀ b ∈ segB g a, b < 256 := by
  unfold segB
  split
  · simp
  · intro b hb
    simp only [List.mem_append, List.mem_flatMap] at hb
    rcases hb with hb | hb | ⟨n, _, hb⟩
    · exact rowB_byte _ b hb
    · exact numB_byte _ b hb
    · unfold rowBy at hb
      rcases List.mem_append.1 hb with hb | hb
      · exact numB_byte _ b hb
      · exact rowB_byte _ b hb
end E
end Go.Proofs.Ytjdagbicjhmeeaa
