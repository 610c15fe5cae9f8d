/- Numbers, rows and labels as bytes (plain). -/
import Derived.Test.YtjdagbicjhmeeaaQc
namespace Go.Proofs.Ytjdagbicjhmeeaa
namespace E
open Go
set_option linter.unusedVariables false
/-! ### Numbers and rows as bytes -/
def numB (n : Int) : List Nat := if n < 0 ∨ 16383 < n then [] else if n < 128 then [n.toNat] else [128 + n.toNat / 128, n.toNat % 128]
def numA (s : List Nat) (p : Nat) : Option (Nat × Nat) := match s[p]? with
  | none => none
  | some a => if a < 128 then some (a, p + 1) else match s[p + 1]? with
    | none => none
    | some b => if a = 128 ∨ 127 < b then none else some ((a - 128) * 128 + b, p + 2)
def up (list : List Int) : Prop := (∀ x ∈ list, 0 ≤ x ∧ x ≤ 16383) ∧ list.Pairwise (· < ·) ∧ list.length ≤ 127
instance (list : List Int) : Decidable (up list) := by unfold up; exact inferInstance
def gapB : Int → List Int → List Nat
  | _, [] => []
  | last, x :: xs => numB (x - last - 1) ++ gapB x xs
def rowB (list : List Int) : List Nat := if up list then numB list.length ++ gapB (-1) list else []
def gapA (s : List Nat) : Nat → Int → Nat → Option (List Int × Nat)
  | 0, _, p => some ([], p)
  | n + 1, last, p => match numA s p with
    | none => none
    | some (g, nx) => if 16383 < last + 1 + g then none else (gapA s n (last + 1 + g) nx).map (fun r => ((last + 1 + g) :: r.1, r.2))
def rowA (s : List Nat) (p : Nat) : Option (List Int × Nat) := match numA s p with
  | none => none
  | some (n, nx) => if 127 < n then none else gapA s n (-1) nx
theorem get_app {α : Type} {a b : List α} {x : α} {rest : List α} (h : b = x :: rest) : (a ++ b)[a.length]? = some x := by subst h; simp
theorem numA_at {s pre post : List Nat} {n : Int} (h : 0 ≤ n ∧ n ≤ 16383) (hs : s = pre ++ (numB n ++ post)) : numA s pre.length = some (n.toNat, pre.length + (numB n).length) := by
  subst hs
  unfold numB
  rw [if_neg (by omega)]
  by_cases h1 : n < 128
  · rw [if_pos h1]
    have e0 : (pre ++ ([n.toNat] ++ post))[pre.length]? = some n.toNat := get_app rfl
    unfold numA
    rw [e0]
    simp only []
    rw [if_pos (by omega)]
    simp
  · rw [if_neg h1]
    have e0 : (pre ++ ([128 + n.toNat / 128, n.toNat % 128] ++ post))[pre.length]? = some (128 + n.toNat / 128) := get_app rfl
    unfold numA
    rw [e0]
    simp only []
    rw [if_neg (by omega)]
    have e : (pre ++ ([128 + n.toNat / 128, n.toNat % 128] ++ post))[pre.length + 1]? = some (n.toNat % 128) := by
      rw [List.getElem?_append_right (by omega)]
      simp
    rw [e]
    simp only []
    rw [if_neg (by omega)]
    simp
    omega
theorem numB_pos {n : Int} (h : 0 ≤ n ∧ n ≤ 16383) : 1 ≤ (numB n).length ∧ (numB n).length ≤ 2 := by
  unfold numB
  rw [if_neg (by omega)]
  split <;> simp
theorem numB_le (n : Int) : (numB n).length ≤ 2 := by
  unfold numB
  split
  · simp
  · split <;> simp
theorem numB_byte (n : Int) : ∀ b ∈ numB n, b < 256 := by
  unfold numB
  split
  · simp
  · split
    · simp; omega
    · simp; omega
theorem gapA_at : ∀ (list : List Int) (last : Int) (s pre post : List Nat), -1 ≤ last → (∀ x ∈ list, last < x ∧ x ≤ 16383) → list.Pairwise (· < ·) → s = pre ++ (gapB last list ++ post) → gapA s list.length last pre.length = some (list, pre.length + (gapB last list).length)
  | [], last, s, pre, post, _, _, _, hs => by simp [gapA, gapB]
  | x :: xs, last, s, pre, post, hl, hb, hp, hs => by
    obtain ⟨h1, h2⟩ := List.pairwise_cons.1 hp
    have hx := hb x List.mem_cons_self
    simp only [gapB] at hs
    rw [List.append_assoc] at hs
    have hn := numA_at (n := x - last - 1) (by omega) hs
    simp only [List.length_cons, gapA, hn]
    have e : last + 1 + ((x - last - 1).toNat : Int) = x := by omega
    rw [e, if_neg (by omega)]
    have ih := gapA_at xs x s (pre ++ numB (x - last - 1)) post (by omega) (fun y hy => ⟨h1 y hy, (hb y (List.mem_cons_of_mem _ hy)).2⟩) h2 (by rw [hs, List.append_assoc])
    rw [List.length_append] at ih
    rw [ih]
    simp [gapB]
    omega
theorem rowA_at {s pre post : List Nat} {list : List Int} (h : up list) (hs : s = pre ++ (rowB list ++ post)) : rowA s pre.length = some (list, pre.length + (rowB list).length) := by
  obtain ⟨h1, h2, h3⟩ := h
  have hr : rowB list = numB list.length ++ gapB (-1) list := by unfold rowB; rw [if_pos ⟨h1, h2, h3⟩]
  rw [hr, List.append_assoc] at hs
  have hn := numA_at (n := list.length) (by omega) hs
  unfold rowA
  rw [hn]
  simp only [Int.toNat_natCast]
  rw [if_neg (by omega)]
  have := gapA_at list (-1) s (pre ++ numB list.length) post (by omega) (fun x hx => by have := h1 x hx; omega) h2 (by rw [hs, List.append_assoc])
  rw [List.length_append] at this
  rw [this, hr]
  simp
  omega
theorem gapB_byte : ∀ (last : Int) (list : List Int), ∀ b ∈ gapB last list, b < 256
  | _, [], b, h => by simp [gapB] at h
  | last, x :: xs, b, h => by
    simp only [gapB, List.mem_append] at h
    rcases h with h | h
    · exact numB_byte _ b h
    · exact gapB_byte x xs b h
theorem rowB_byte (list : List Int) : ∀ b ∈ rowB list, b < 256 := by
  unfold rowB
  split
  · intro b h
    rcases List.mem_append.1 h with h | h
    · exact numB_byte _ b h
    · exact gapB_byte _ _ b h
  · simp
theorem gapB_le : ∀ (last : Int) (list : List Int), (gapB last list).length ≤ 2 * list.length
  | _, [] => by simp [gapB]
  | last, x :: xs => by
    have := numB_le (x - last - 1)
    have := gapB_le x xs
    simp only [gapB, List.length_append, List.length_cons]
    omega
theorem rowB_le (list : List Int) : (rowB list).length ≤ 2 * list.length + 2 := by
  unfold rowB
  split
  · have := gapB_le (-1) list
    have := numB_le list.length
    rw [List.length_append]
    omega
  · simp
theorem rowB_pos {list : List Int} (h : up list) : 0 < (rowB list).length := by
  unfold rowB
  rw [if_pos h, List.length_append]
  have := (numB_pos (n := list.length) ⟨by omega, by have := h.2.2; omega⟩).1
  omega
/-! ### What there is of a label, as bytes -/
structure Rw where
  code : Int
  jn : List Int
  fr : Nat
  to : Nat
  deriving DecidableEq
structure Cls where
  nums : List Int
  hd : Nat
  rows : List Rw
def rowsA (s : List Nat) : Nat → Nat → Option (List Rw × Nat)
  | 0, p => some ([], p)
  | n + 1, p => match numA s p with
    | none => none
    | some (c, p1) => match rowA s p1 with
      | none => none
      | some (row, p2) => (rowsA s n p2).map (fun r => (⟨c, row, p, p2⟩ :: r.1, r.2))
def clsA (s : List Nat) : Option Cls := match rowA s 0 with
  | none => none
  | some (nums, h) => match numA s h with
    | none => none
    | some (n, p) => match rowsA s n p with
      | none => none
      | some (rows, q) => if q = s.length then some ⟨nums, h, rows⟩ else none
def onlyE (es : List Eg) (a : Int) : List Eg := es.filter (fun e => decide (e.l = a))
def endS (acc : List Nd) (e : Eg) : List Nd := addN (addN acc e.a) e.b
def endN (es : List Eg) : List Nd := es.foldl endS []
def numsL (ns : List Nd) (a : Int) : List Int := (ns.filter (fun x => decide (x.l = a))).map (fun x => x.n)
def jnL (es : List Eg) (n : Nd) : List Int := (nearL es n).map cd
def rowBy (es : List Eg) (n : Nd) : List Nat := numB (cd n) ++ rowB (jnL es n)
def segB (g : Gr) (a : Int) : List Nat :=
  if numsL g.ns a = [] ∧ endN (onlyE g.es a) = [] then [] else rowB (numsL g.ns a) ++ (numB (endN (onlyE g.es a)).length ++ (endN (onlyE g.es a)).flatMap (rowBy (onlyE g.es a)))
def rowPos (es : List Eg) : Nat → List Nd → List Rw
  | _, [] => []
  | p, n :: ns => ⟨cd n, jnL es n, p, p + (rowBy es n).length⟩ :: rowPos es (p + (rowBy es n).length) ns
def clsG (g : Gr) (a : Int) : Cls := ⟨numsL g.ns a, (rowB (numsL g.ns a)).length, rowPos (onlyE g.es a) ((rowB (numsL g.ns a)).length + (numB (endN (onlyE g.es a)).length).length) (endN (onlyE g.es a))⟩
theorem mem_endF : ∀ (es : List Eg) (acc : List Nd) (x : Nd), x ∈ es.foldl endS acc ↔ x ∈ acc ∨ ∃ e ∈ es, x = e.a ∨ x = e.b
  | [], acc, x => by simp
  | e :: es, acc, x => by
    rw [List.foldl_cons, mem_endF es]
    simp only [endS, mem_addN, List.mem_cons]
    constructor
    · rintro ((h | h | h) | ⟨e', h1, h2⟩)
      · exact Or.inr ⟨e, Or.inl rfl, Or.inr h⟩
      · exact Or.inr ⟨e, Or.inl rfl, Or.inl h⟩
      · exact Or.inl h
      · exact Or.inr ⟨e', Or.inr h1, h2⟩
    · rintro (h | ⟨e', h1 | h1, h2⟩)
      · exact Or.inl (Or.inr (Or.inr h))
      · subst h1
        rcases h2 with h2 | h2
        · exact Or.inl (Or.inr (Or.inl h2))
        · exact Or.inl (Or.inl h2)
      · exact Or.inr ⟨e', h1, h2⟩
theorem mem_endN {es : List Eg} {x : Nd} : x ∈ endN es ↔ ∃ e ∈ es, x = e.a ∨ x = e.b := by unfold endN; rw [mem_endF]; simp
theorem ord_endF : ∀ (es : List Eg) (acc : List Nd), (∀ e ∈ es, eok e = true) → Ord acc → Ord (es.foldl endS acc)
  | [], _, _, h => h
  | e :: es, acc, he, h => by
    obtain ⟨p1, p2, p3, _⟩ := eok_parts (he e List.mem_cons_self)
    rw [List.foldl_cons]
    exact ord_endF es _ (fun x hx => he x (List.mem_cons_of_mem _ hx)) ((h.addN p2).addN p3)
theorem ord_endN {es : List Eg} (h : ∀ e ∈ es, eok e = true) : Ord (endN es) := ord_endF es [] h ⟨by simp, by simp⟩
theorem len_addN (acc : List Nd) (m : Nd) : (addN acc m).length ≤ acc.length + 1 := by
  unfold addN
  split
  · omega
  · have := count_ins (fun _ => true) (fun x => decide (cd x < cd m)) acc m
    simp only [List.countP_true, if_true] at this
    unfold insN
    omega
theorem len_endF : ∀ (es : List Eg) (acc : List Nd), (es.foldl endS acc).length ≤ acc.length + 2 * es.length
  | [], acc => by simp
  | e :: es, acc => by
    have h1 := len_endF es (endS acc e)
    have h2 := len_addN (addN acc e.a) e.b
    have h3 := len_addN acc e.a
    rw [List.foldl_cons]
    simp only [endS, List.length_cons] at *
    omega
theorem len_endN (es : List Eg) : (endN es).length ≤ 2 * es.length := by have := len_endF es []; simpa [endN] using this
theorem onlyE_len {g : Gr} (h : g.ok) {a : Int} (ha : lok a = true) : (onlyE g.es a).length ≤ 7 := by
  have := h.2.2.2 a (mem_labs.2 (lok_iff.1 ha))
  rw [List.countP_eq_length_filter] at this
  exact this
theorem onlyE_eok {g : Gr} (h : g.ok) {a : Int} : ∀ e ∈ onlyE g.es a, eok e = true := fun e he => (h.2.1 e (List.mem_filter.1 he).1).1
theorem nums_len {g : Gr} (h : g.ok) {a : Int} (ha : lok a = true) : (numsL g.ns a).length ≤ 5 := by
  have := h.1.2.2 a (mem_labs.2 (lok_iff.1 ha))
  rw [List.countP_eq_length_filter] at this
  simpa [numsL] using this
theorem up_nums {g : Gr} (h : g.ok) {a : Int} (ha : lok a = true) : up (numsL g.ns a) := by
  refine ⟨fun x hx => ?_, ?_, by have := nums_len h ha; omega⟩
  · obtain ⟨n, hn, rfl⟩ := List.mem_map.1 hx
    have := nok_iff.1 (h.1.1 n (List.mem_filter.1 hn).1)
    omega
  · unfold numsL
    rw [List.pairwise_map]
    refine (h.1.2.1.filter _).imp_of_mem (fun {x y} hx hy hxy => ?_)
    simp only [List.mem_filter, decide_eq_true_eq] at hx hy
    rw [cd_ok (h.1.1 x hx.1), cd_ok (h.1.1 y hy.1)] at hxy
    omega
theorem up_jn {es : List Eg} (h : ∀ e ∈ es, eok e = true) {n : Nd} (hl : es.length ≤ 100) : up (jnL es n) := by
  have ho := ord_nearL (n := n) h
  refine ⟨fun x hx => ?_, ?_, ?_⟩
  · obtain ⟨m, hm, rfl⟩ := List.mem_map.1 hx
    have := cd_bd (ho.1 m hm)
    omega
  · unfold jnL
    rw [List.pairwise_map]
    exact ho.2
  · have : ∀ (es : List Eg) (acc : List Nd), (es.foldl (nearS n) acc).length ≤ acc.length + es.length := by
      intro es
      induction es with
      | nil => simp
      | cons e es ih =>
        intro acc
        have h1 := ih (nearS n acc e)
        have h2 : (nearS n acc e).length ≤ acc.length + 1 := by
          unfold nearS
          split
          · exact len_addN _ _
          · omega
        simp only [List.foldl_cons, List.length_cons]
        omega
    have := this es []
    simp only [jnL, List.length_map, nearL]
    simp at this
    omega
theorem rowsA_at {es : List Eg} (he : ∀ e ∈ es, eok e = true) (hl : es.length ≤ 100) : ∀ (ns : List Nd) (s pre post : List Nat), (∀ n ∈ ns, nok n = true) → s = pre ++ (ns.flatMap (rowBy es) ++ post) → rowsA s ns.length pre.length = some (rowPos es pre.length ns, pre.length + (ns.flatMap (rowBy es)).length)
  | [], s, pre, post, _, hs => by simp [rowsA, rowPos]
  | n :: ns, s, pre, post, hn, hs => by
    have hb := cd_bd (hn n List.mem_cons_self)
    simp only [List.flatMap_cons, List.append_assoc] at hs
    have h1 : s = pre ++ (numB (cd n) ++ (rowB (jnL es n) ++ (ns.flatMap (rowBy es) ++ post))) := by rw [hs]; simp [rowBy]
    have hA := numA_at (n := cd n) (by omega) h1
    have hR := rowA_at (pre := pre ++ numB (cd n)) (post := ns.flatMap (rowBy es) ++ post) (up_jn he (n := n) hl) (h1.trans (by rw [List.append_assoc]))
    have ih := rowsA_at he hl ns s (pre ++ rowBy es n) post (fun x hx => hn x (List.mem_cons_of_mem _ hx)) (by rw [hs, List.append_assoc])
    simp only [List.length_cons, rowsA, hA]
    rw [List.length_append] at hR
    rw [hR]
    simp only []
    have e : pre.length + (numB (cd n)).length + (rowB (jnL es n)).length = pre.length + (rowBy es n).length := by simp [rowBy]; omega
    rw [List.length_append] at ih
    have hcd : ((cd n).toNat : Int) = cd n := Int.toNat_of_nonneg hb.1
    rw [e, ih, hcd]
    simp only [Option.map_some, rowPos, List.length_append, List.flatMap_cons, Nat.add_assoc]
theorem clsA_seg {g : Gr} (h : g.ok) {a : Int} (ha : lok a = true) (hne : segB g a ≠ []) : clsA (segB g a) = some (clsG g a) := by
  have hseg : segB g a = rowB (numsL g.ns a) ++ (numB (endN (onlyE g.es a)).length ++ (endN (onlyE g.es a)).flatMap (rowBy (onlyE g.es a))) := by
    unfold segB at hne ⊢
    split
    · rename_i hh; rw [if_pos hh] at hne; exact absurd rfl hne
    · rfl
  have hl := onlyE_len h ha
  have hel := len_endN (onlyE g.es a)
  have h1 := rowA_at (s := segB g a) (pre := []) (up_nums h ha) (by rw [hseg]; rfl)
  have h2 := numA_at (s := segB g a) (pre := rowB (numsL g.ns a)) (n := (endN (onlyE g.es a)).length) (by omega) hseg
  have h3 := rowsA_at (es := onlyE g.es a) (onlyE_eok h) (by omega) (endN (onlyE g.es a)) (segB g a) (rowB (numsL g.ns a) ++ numB (endN (onlyE g.es a)).length) [] (fun n hn => (ord_endN (onlyE_eok h)).1 n hn) (by rw [hseg]; simp)
  unfold clsA
  simp only [List.length_nil, Nat.zero_add] at h1
  rw [h1]
  simp only []
  rw [h2]
  simp only [Int.toNat_natCast]
  rw [List.length_append] at h3
  rw [h3]
  simp only []
  rw [if_pos (by rw [hseg]; simp; omega)]
  rfl
theorem segB_byte (g : Gr) (a : Int) : ∀ b ∈ segB g a, b < 256 := by
  unfold segB
  split
  · simp
  · intro b hb
    simp only [List.mem_append, List.mem_flatMap] at hb
    rcases hb with hb | hb | ⟨n, _, hb⟩
    · exact rowB_byte _ b hb
    · exact numB_byte _ b hb
    · unfold rowBy at hb
      rcases List.mem_append.1 hb with hb | hb
      · exact numB_byte _ b hb
      · exact rowB_byte _ b hb
end E
end Go.Proofs.Ytjdagbicjhmeeaa
/- Stores (plain). -/
namespace Go.Proofs.Ytjdagbicjhmeeaa
namespace E
open Go
set_option linter.unusedVariables false
/-! ### Stores -/
structure Sg where
  l : Int
  b : ByteArray
  deriving DecidableEq
def bs (l : List Nat) : ByteArray := ⟨(l.map UInt8.ofNat).toArray⟩
def bn (s : ByteArray) : List Nat := s.data.toList.map UInt8.toNat
theorem bn_bs {l : List Nat} (h : ∀ b ∈ l, b < 256) : bn (bs l) = l := by
  simp only [bn, bs, List.map_map]
  conv => rhs; rw [← List.map_id l]
  apply List.map_congr_left
  intro b hb
  have := h b hb
  simp [UInt8.toNat_ofNat', Nat.mod_eq_of_lt this]
theorem bs_bn (s : ByteArray) : bs (bn s) = s := by
  obtain ⟨⟨l⟩⟩ := s
  have : List.map (UInt8.ofNat ∘ UInt8.toNat) l = l := by
    conv => rhs; rw [← List.map_id l]
    apply List.map_congr_left
    intro b _
    simp
  simp [bs, bn, List.map_map, this]
theorem bs_app (a b : List Nat) : bs (a ++ b) = bs a ++ bs b := by
  simp [bs, ByteArray.ext_iff, ByteArray.data_append]
theorem bn_len (s : ByteArray) : (bn s).length = s.size := by unfold bn; rw [List.length_map, Array.length_toList]; rfl
def segOf (g : Gr) (a : Int) : Option Sg := if segB g a = [] then none else some ⟨a, bs (segB g a)⟩
def storeL (g : Gr) : List Sg := labs.filterMap (segOf g)
def nodeOf (c : Int) : Nd := ⟨c / 64, c % 64⟩
theorem nodeOf_cd {n : Nd} (h : nok n = true) : nodeOf (cd n) = n := by
  have := nok_iff.1 h
  rw [cd_ok h]
  obtain ⟨l, m⟩ := n
  simp only [nodeOf, Nd.mk.injEq] at *
  omega
def clsNs (a : Int) (c : Cls) : List Nd := c.nums.map (fun n => ⟨a, n⟩)
def rowEs (a : Int) (r : Rw) : List Eg := r.jn.filterMap (fun o => if r.code < o then some ⟨a, nodeOf r.code, nodeOf o⟩ else none)
def clsEs (a : Int) (c : Cls) : List Eg := c.rows.flatMap (rowEs a)
theorem clsNs_g (g : Gr) (a : Int) : clsNs a (clsG g a) = g.ns.filter (fun x => decide (x.l = a)) := by
  simp only [clsNs, clsG, numsL, List.map_map]
  conv => rhs; rw [← List.map_id (g.ns.filter _)]
  apply List.map_congr_left
  intro x hx
  simp only [List.mem_filter, decide_eq_true_eq] at hx
  obtain ⟨l, n⟩ := x
  simp only [Function.comp, id, Nd.mk.injEq, and_true]
  exact hx.2.symm
theorem rowPos_es (a : Int) (es : List Eg) : ∀ (p : Nat) (ns : List Nd), (rowPos es p ns).flatMap (rowEs a) = ns.flatMap (fun n => (jnL es n).filterMap (fun o => if cd n < o then some (⟨a, nodeOf (cd n), nodeOf o⟩ : Eg) else none))
  | _, [] => rfl
  | p, n :: ns => by
    simp only [rowPos, List.flatMap_cons, rowPos_es a es _ ns]
    rfl
theorem pw_filterMap {α β : Type} {R : α → α → Prop} {S : β → β → Prop} (f : α → Option β) : ∀ {xs : List α}, xs.Pairwise R → (∀ x ∈ xs, ∀ y ∈ xs, R x y → ∀ u v, f x = some u → f y = some v → S u v) → (xs.filterMap f).Pairwise S
  | [], _, _ => List.Pairwise.nil
  | x :: xs, h, hf => by
    obtain ⟨h1, h2⟩ := List.pairwise_cons.1 h
    have ih := pw_filterMap f h2 (fun a ha b hb => hf a (List.mem_cons_of_mem _ ha) b (List.mem_cons_of_mem _ hb))
    rw [List.filterMap_cons]
    split
    · exact ih
    · rename_i u hu
      refine List.pairwise_cons.2 ⟨fun v hv => ?_, ih⟩
      obtain ⟨y, hy, e⟩ := List.mem_filterMap.1 hv
      exact hf x List.mem_cons_self y (List.mem_cons_of_mem _ hy) (h1 y hy) u v hu e
theorem pw_flatMap {α β : Type} {R : α → α → Prop} {S : β → β → Prop} (f : α → List β) : ∀ {xs : List α}, xs.Pairwise R → (∀ x ∈ xs, (f x).Pairwise S) → (∀ x ∈ xs, ∀ y ∈ xs, R x y → ∀ u ∈ f x, ∀ v ∈ f y, S u v) → (xs.flatMap f).Pairwise S
  | [], _, _, _ => List.Pairwise.nil
  | x :: xs, h, h0, hf => by
    obtain ⟨h1, h2⟩ := List.pairwise_cons.1 h
    have ih := pw_flatMap f h2 (fun a ha => h0 a (List.mem_cons_of_mem _ ha)) (fun a ha b hb => hf a (List.mem_cons_of_mem _ ha) b (List.mem_cons_of_mem _ hb))
    rw [List.flatMap_cons, List.pairwise_append]
    refine ⟨h0 x List.mem_cons_self, ih, fun u hu v hv => ?_⟩
    obtain ⟨y, hy, e⟩ := List.mem_flatMap.1 hv
    exact hf x List.mem_cons_self y (List.mem_cons_of_mem _ hy) (h1 y hy) u hu v e
theorem clsEs_g {g : Gr} (h : g.ok) (a : Int) : clsEs a (clsG g a) = onlyE g.es a := by
  have he := onlyE_eok h (a := a)
  have ho := ord_endN he
  have hno : ∀ n, Ord (nearL (onlyE g.es a) n) := fun n => ord_nearL he
  have hlab : ∀ e ∈ onlyE g.es a, e.l = a := fun e hm => by simpa using (List.mem_filter.1 hm).2
  unfold clsEs clsG
  simp only []
  rw [rowPos_es]
  refine sorted_ext ekey ?_ (h.2.2.1.filter _) (fun x => ?_)
  · refine pw_flatMap (R := fun x y => cd x < cd y) _ ho.2 (fun n hn => ?_) (fun n hn m hm hlt u hu v hv => ?_)
    · refine pw_filterMap (R := (· < ·)) _ ?_ (fun o ho' o' ho'' hlt u v hu hv => ?_)
      · unfold jnL; rw [List.pairwise_map]; exact (hno n).2
      · obtain ⟨m, hm, rfl⟩ := List.mem_map.1 ho'
        obtain ⟨m', hm', rfl⟩ := List.mem_map.1 ho''
        rw [nodeOf_cd (ho.1 n hn), nodeOf_cd ((hno n).1 m hm)] at hu
        rw [nodeOf_cd (ho.1 n hn), nodeOf_cd ((hno n).1 m' hm')] at hv
        split at hu
        · split at hv
          · injection hu with hu; injection hv with hv; subst hu; subst hv
            unfold ekey; simp only []; omega
          · cases hv
        · cases hu
    · obtain ⟨o, ho', hu⟩ := List.mem_filterMap.1 hu
      obtain ⟨o', ho'', hv⟩ := List.mem_filterMap.1 hv
      obtain ⟨k, hk, rfl⟩ := List.mem_map.1 ho'
      obtain ⟨k', hk', rfl⟩ := List.mem_map.1 ho''
      rw [nodeOf_cd (ho.1 n hn), nodeOf_cd ((hno n).1 k hk)] at hu
      rw [nodeOf_cd (ho.1 m hm), nodeOf_cd ((hno m).1 k' hk')] at hv
      have b1 := cd_bd ((hno n).1 k hk)
      have b2 := cd_bd ((hno m).1 k' hk')
      split at hu
      · split at hv
        · injection hu with hu; injection hv with hv; subst hu; subst hv
          unfold ekey; simp only []; omega
        · cases hv
      · cases hu
  · rw [List.mem_flatMap]
    constructor
    · rintro ⟨n, hn, hx⟩
      obtain ⟨o, ho', hx⟩ := List.mem_filterMap.1 hx
      obtain ⟨m, hm, rfl⟩ := List.mem_map.1 ho'
      rw [nodeOf_cd (ho.1 n hn), nodeOf_cd ((hno n).1 m hm)] at hx
      split at hx
      · rename_i hlt
        injection hx with hx
        obtain ⟨e, he', hoe⟩ := mem_nearL.1 hm
        have hle := hlab e he'
        have hlt2 := (eok_parts (he e he')).2.2.2.1
        unfold other at hoe
        split at hoe
        · rename_i ea
          injection hoe with hoe
          have : x = e := by rw [← hx]; cases e; simp_all
          rw [this]; exact he'
        · split at hoe
          · rename_i _ eb
            injection hoe with hoe
            rw [eb, hoe] at hlt2; omega
          · cases hoe
      · cases hx
    · intro hx
      obtain ⟨p1, p2, p3, p4, _⟩ := eok_parts (he x hx)
      refine ⟨x.a, mem_endN.2 ⟨x, hx, Or.inl rfl⟩, List.mem_filterMap.2 ⟨cd x.b, List.mem_map.2 ⟨x.b, mem_nearL.2 ⟨x, hx, by simp [other]⟩, rfl⟩, ?_⟩⟩
      rw [if_pos p4, nodeOf_cd p2, nodeOf_cd p3]
      have := hlab x hx
      cases x; simp_all
theorem seg_nil {g : Gr} (h : g.ok) {a : Int} (ha : lok a = true) (hs : segB g a = []) : g.ns.filter (fun x => decide (x.l = a)) = [] ∧ onlyE g.es a = [] := by
  unfold segB at hs
  split at hs
  · rename_i hh
    refine ⟨by simpa [numsL] using hh.1, ?_⟩
    have h2 := hh.2
    cases hc : onlyE g.es a with
    | nil => rfl
    | cons e es =>
      have hm : e.a ∈ endN (onlyE g.es a) := mem_endN.2 ⟨e, by rw [hc]; exact List.mem_cons_self, Or.inl rfl⟩
      rw [h2] at hm; cases hm
  · have := rowB_pos (up_nums h ha)
    simp only [List.append_eq_nil_iff] at hs
    rw [hs.1] at this; simp at this
theorem ns_by_label {g : Gr} (h : g.ok) : labs.flatMap (fun a => g.ns.filter (fun x => decide (x.l = a))) = g.ns := by
  refine sorted_ext cd ?_ h.1.2.1 (fun x => ?_)
  · refine pw_flatMap (R := (· < ·)) _ (by decide) (fun a _ => h.1.2.1.filter _) (fun a _ b _ hab u hu v hv => ?_)
    simp only [List.mem_filter, decide_eq_true_eq] at hu hv
    rw [cd_ok (h.1.1 u hu.1), cd_ok (h.1.1 v hv.1)]
    have := nok_iff.1 (h.1.1 u hu.1)
    have := nok_iff.1 (h.1.1 v hv.1)
    omega
  · simp only [List.mem_flatMap, List.mem_filter, decide_eq_true_eq]
    constructor
    · rintro ⟨a, _, hx, _⟩; exact hx
    · intro hx
      exact ⟨x.l, mem_labs.2 (lok_iff.1 (nok_lok (h.1.1 x hx))), hx, rfl⟩
theorem es_by_label {g : Gr} (h : g.ok) : labs.flatMap (fun a => onlyE g.es a) = g.es := by
  refine sorted_ext ekey ?_ h.2.2.1 (fun x => ?_)
  · refine pw_flatMap (R := (· < ·)) _ (by decide) (fun a _ => h.2.2.1.filter _) (fun a _ b _ hab u hu v hv => ?_)
    simp only [onlyE, List.mem_filter, decide_eq_true_eq] at hu hv
    obtain ⟨a1, a2, a3, _⟩ := eok_parts (h.2.1 u hu.1).1
    obtain ⟨b1, b2, b3, _⟩ := eok_parts (h.2.1 v hv.1).1
    have h1 := cd_bd a2; have h2 := cd_bd a3; have h3 := cd_bd b2; have h4 := cd_bd b3
    unfold ekey
    omega
  · simp only [onlyE, List.mem_flatMap, List.mem_filter, decide_eq_true_eq]
    constructor
    · rintro ⟨a, _, hx, _⟩; exact hx
    · intro hx
      exact ⟨x.l, mem_labs.2 (lok_iff.1 (eok_parts (h.2.1 x hx).1).1), hx, rfl⟩
/-- Reading, label by label. -/
def addSg (g : Gr) (a : Int) (c : Cls) : Gr := ⟨g.ns ++ clsNs a c, g.es ++ clsEs a c⟩
def parse : List Sg → Gr → Option Gr
  | [], g => some g
  | s :: ss, g => match clsA (bn s.b) with
    | none => none
    | some c => parse ss (addSg g s.l c)
theorem clsA_sg {g : Gr} (h : g.ok) {a : Int} (ha : lok a = true) (hne : segB g a ≠ []) : clsA (bn (bs (segB g a))) = some (clsG g a) := by
  rw [bn_bs (segB_byte g a)]
  exact clsA_seg h ha hne
theorem parse_labs {g : Gr} (h : g.ok) : ∀ (ls : List Int) (g0 : Gr), (∀ a ∈ ls, lok a = true) → parse (ls.filterMap (segOf g)) g0 = some ⟨g0.ns ++ ls.flatMap (fun a => g.ns.filter (fun x => decide (x.l = a))), g0.es ++ ls.flatMap (fun a => onlyE g.es a)⟩
  | [], g0, _ => by simp [parse]
  | a :: ls, g0, hl => by
    have ha := hl a List.mem_cons_self
    have ih := fun g1 => parse_labs h ls g1 (fun b hb => hl b (List.mem_cons_of_mem _ hb))
    rw [List.filterMap_cons]
    by_cases hs : segB g a = []
    · obtain ⟨e1, e2⟩ := seg_nil h ha hs
      simp only [segOf, hs, if_true, List.flatMap_cons, e1, e2, List.nil_append]
      exact ih g0
    · simp only [segOf, hs, if_false]
      simp only [parse, clsA_sg h ha hs]
      rw [ih]
      simp [addSg, clsNs_g, clsEs_g h, List.append_assoc]
theorem parse_store {g : Gr} (h : g.ok) : parse (storeL g) ⟨[], []⟩ = some g := by
  unfold storeL
  rw [parse_labs h labs _ (fun a ha => lok_iff.2 (mem_labs.1 ha)), ns_by_label h, es_by_label h]
  simp
theorem storeL_inj {g g' : Gr} (h : g.ok) (h' : g'.ok) (e : storeL g = storeL g') : g = g' := by
  have a := parse_store h
  have b := parse_store h'
  rw [e, b] at a
  injection a with a
  exact a.symm
/-- The graph that is right of which this is the store. -/
def readL (store : List Sg) : Option Gr := match parse store ⟨[], []⟩ with
  | none => none
  | some g => if g.ok ∧ storeL g = store then some g else none
theorem readL_store {g : Gr} (h : g.ok) : readL (storeL g) = some g := by
  unfold readL
  rw [parse_store h]
  simp [h]
theorem readL_some {store : List Sg} {g : Gr} (h : readL store = some g) : g.ok ∧ storeL g = store ∧ parse store ⟨[], []⟩ = some g := by
  unfold readL at h
  split at h
  · cases h
  · rename_i g' hp
    split at h
    · rename_i hh
      injection h with h
      subst h
      exact ⟨hh.1, hh.2, hp⟩
    · cases h
theorem mem_storeL {g : Gr} {s : Sg} : s ∈ storeL g ↔ lok s.l = true ∧ segB g s.l ≠ [] ∧ s.b = bs (segB g s.l) := by
  unfold storeL
  rw [List.mem_filterMap]
  constructor
  · rintro ⟨a, ha, hs⟩
    unfold segOf at hs
    split at hs
    · cases hs
    · rename_i hne
      injection hs with hs
      subst hs
      exact ⟨lok_iff.2 (mem_labs.1 ha), hne, rfl⟩
  · rintro ⟨h1, h2, h3⟩
    refine ⟨s.l, mem_labs.2 (lok_iff.1 h1), ?_⟩
    unfold segOf
    rw [if_neg h2, ← h3]
theorem storeL_up (g : Gr) : (storeL g).Pairwise (fun a b => a.l < b.l) := by
  unfold storeL
  refine pw_filterMap (R := (· < ·)) _ (by decide) (fun a _ b _ hab u v hu hv => ?_)
  unfold segOf at hu hv
  split at hu
  · cases hu
  · split at hv
    · cases hv
    · injection hu with hu; injection hv with hv
      subst hu; subst hv
      exact hab
theorem storeL_len (g : Gr) : (storeL g).length ≤ 8 := List.length_filterMap_le _ _
theorem filter_two {α : Type} (f : α → Int) (c a : Int) (xs : List α) : (xs.filter (fun x => lun (f x) c)).filter (fun x => decide (f x = a)) = if lun a c = true then xs.filter (fun x => decide (f x = a)) else [] := by
  rw [List.filter_filter]
  split
  · rename_i h
    apply List.filter_congr
    intro x _
    by_cases e : f x = a
    · simp [e, h]
    · simp [e]
  · rename_i h
    rw [List.filter_eq_nil_iff]
    intro x _
    simp only [Bool.and_eq_true, decide_eq_true_eq]
    rintro ⟨e, h2⟩
    rw [e] at h2
    exact h h2
theorem segB_view (g : Gr) (c a : Int) : segB (view g c) a = if lun a c = true then segB g a else [] := by
  unfold segB
  have h1 : numsL (view g c).ns a = if lun a c = true then numsL g.ns a else [] := by
    unfold numsL view
    simp only []
    rw [filter_two (fun x : Nd => x.l)]
    split <;> rfl
  have h2 : onlyE (view g c).es a = if lun a c = true then onlyE g.es a else [] := by
    unfold onlyE view
    simp only []
    rw [filter_two (fun x : Eg => x.l)]
  rw [h1, h2]
  split <;> rfl
def viewS (store : List Sg) (c : Int) : List Sg := store.filter (fun s => lun s.l c)
theorem filterMap_congr {α β : Type} {f f' : α → Option β} : ∀ {xs : List α}, (∀ x ∈ xs, f x = f' x) → xs.filterMap f = xs.filterMap f'
  | [], _ => rfl
  | x :: xs, h => by
    rw [List.filterMap_cons, List.filterMap_cons, h x List.mem_cons_self, filterMap_congr (fun y hy => h y (List.mem_cons_of_mem _ hy))]
theorem store_view (g : Gr) (c : Int) : storeL (view g c) = viewS (storeL g) c := by
  unfold storeL viewS
  rw [List.filter_filterMap]
  apply filterMap_congr
  intro a _
  unfold segOf
  rw [segB_view]
  by_cases h : lun a c = true
  · rw [if_pos h]
    by_cases hs : segB g a = []
    · simp [hs]
    · simp [hs, h, Option.filter]
  · rw [if_neg h]
    by_cases hs : segB g a = []
    · simp [hs]
    · simp [hs, h, Option.filter]
end E
end Go.Proofs.Ytjdagbicjhmeeaa
/- Pages and pools (plain). -/
namespace Go.Proofs.Ytjdagbicjhmeeaa
namespace E
open Go
set_option linter.unusedVariables false
/-! ### Pages -/
def spanL (a : Int) (fr to : Nat) : List Pg := if lok a = true ∧ fr < to ∧ to ≤ 8000 then (List.range' (fr / 8) ((to + 7) / 8 - fr / 8)).map (fun (k : Nat) => (⟨a, (k : Int)⟩ : Pg)) else []
theorem mem_span {a : Int} {fr to : Nat} {p : Pg} (h : p ∈ spanL a fr to) : p.l = a ∧ lok a = true ∧ 0 ≤ p.a ∧ p.a * 8 < to ∧ p.a < 1000 := by
  unfold spanL at h
  split at h
  · rename_i hh
    obtain ⟨k, hk, rfl⟩ := List.mem_map.1 h
    rw [List.mem_range'_1] at hk
    refine ⟨rfl, hh.1, by simp, ?_, ?_⟩ <;> (simp only []; omega)
  · cases h
theorem span_first {a : Int} {to : Nat} (ha : lok a = true) (h : 0 < to ∧ to ≤ 8000) : (⟨a, 0⟩ : Pg) ∈ spanL a 0 to := by
  unfold spanL
  rw [if_pos ⟨ha, h⟩]
  refine List.mem_map.2 ⟨0, ?_, rfl⟩
  rw [List.mem_range'_1]
  omega
theorem span_ok {a : Int} {fr to : Nat} {p : Pg} (h : p ∈ spanL a fr to) : pgok p = true := by
  obtain ⟨h1, h2, h3, h4, h5⟩ := mem_span h
  simp [pgok, h1, h2, h3, h5]
def rowOf (rows : List Rw) (c : Int) : Nat × Nat := match rows.find? (fun r => decide (r.code = c)) with
  | some r => (r.fr, r.to)
  | none => (0, 0)
def hdS (s : Sg) : Nat := match clsA (bn s.b) with
  | some c => c.hd
  | none => 0
def rowS (s : Sg) (c : Int) : Nat × Nat := match clsA (bn s.b) with
  | some k => rowOf k.rows c
  | none => (0, 0)
def headsS (segs : List Sg) : List Pg := segs.flatMap (fun s => spanL s.l 0 (hdS s))
def nodeS (segs : List Sg) (n : Nd) : List Pg := segs.flatMap (fun s => spanL s.l (rowS s (cd n)).1 (rowS s (cd n)).2)
def pagesS (segs : List Sg) (order : List Nd) : List Pg := headsS segs ++ order.flatMap (nodeS segs)
def orderL (g : Gr) (q : Qu) : List Nd := if q.k = 1 then [q.n] else if q.k = 2 then waveL g q.n else g.ns
def pagesL (g : Gr) (q : Qu) : List Pg := pagesS (storeL g) (orderL g q)
theorem rowPos_to (es : List Eg) : ∀ (p : Nat) (ns : List Nd) (r : Rw), r ∈ rowPos es p ns → p ≤ r.fr ∧ r.fr ≤ r.to ∧ r.to ≤ p + (ns.flatMap (rowBy es)).length
  | _, [], r, h => by cases h
  | p, n :: ns, r, h => by
    simp only [rowPos, List.mem_cons] at h
    simp only [List.flatMap_cons, List.length_append]
    rcases h with rfl | h
    · simp only []; omega
    · have := rowPos_to es _ ns r h
      omega
theorem rowPos_codes (es : List Eg) : ∀ (p : Nat) (ns : List Nd), (rowPos es p ns).map (·.code) = ns.map cd
  | _, [] => rfl
  | p, n :: ns => by simp [rowPos, rowPos_codes es _ ns]
theorem seg_eq {g : Gr} {a : Int} (hne : segB g a ≠ []) : segB g a = rowB (numsL g.ns a) ++ (numB (endN (onlyE g.es a)).length ++ (endN (onlyE g.es a)).flatMap (rowBy (onlyE g.es a))) := by
  unfold segB at hne ⊢
  split
  · rename_i hh; rw [if_pos hh] at hne; exact absurd rfl hne
  · rfl
theorem clsG_in {g : Gr} (h : g.ok) {a : Int} (ha : lok a = true) (hne : segB g a ≠ []) : 0 < (clsG g a).hd ∧ (clsG g a).hd ≤ (segB g a).length ∧ ∀ r ∈ (clsG g a).rows, r.fr ≤ r.to ∧ r.to ≤ (segB g a).length := by
  have e := congrArg List.length (seg_eq hne)
  simp only [List.length_append] at e
  refine ⟨rowB_pos (up_nums h ha), by rw [e]; simp only [clsG]; omega, fun r hr => ?_⟩
  have := rowPos_to _ _ _ r hr
  rw [e]
  omega
theorem seg_small {g : Gr} (h : g.ok) {a : Int} (ha : lok a = true) : (segB g a).length ≤ 8000 := by
  by_cases hne : segB g a = []
  · rw [hne]; simp
  · have e := congrArg List.length (seg_eq hne)
    simp only [List.length_append] at e
    have h1 := nums_len h ha
    have h2 := onlyE_len h ha
    have h3 := rowB_le (numsL g.ns a)
    have h4 := numB_le (endN (onlyE g.es a)).length
    have h5 := len_endN (onlyE g.es a)
    have h6 : ∀ ns : List Nd, (ns.flatMap (rowBy (onlyE g.es a))).length ≤ 300 * ns.length := by
      intro ns
      induction ns with
      | nil => simp
      | cons n ns ih =>
        have a1 := rowB_le (jnL (onlyE g.es a) n)
        have a2 := numB_le (cd n)
        have a3 := (up_jn (onlyE_eok h (a := a)) (n := n) (by omega)).2.2
        simp only [List.flatMap_cons, List.length_append, List.length_cons, rowBy]
        omega
    have := h6 (endN (onlyE g.es a))
    omega
theorem find_mem {rows : List Rw} {c : Int} : rowOf rows c = (0, 0) ∨ ∃ r ∈ rows, rowOf rows c = (r.fr, r.to) := by
  unfold rowOf
  split
  · rename_i r hr
    exact Or.inr ⟨r, List.mem_of_find?_eq_some hr, rfl⟩
  · exact Or.inl rfl
theorem clsA_mem {g : Gr} (h : g.ok) {s : Sg} (hs : s ∈ storeL g) : clsA (bn s.b) = some (clsG g s.l) ∧ lok s.l = true ∧ segB g s.l ≠ [] ∧ (bn s.b) = segB g s.l := by
  obtain ⟨h1, h2, h3⟩ := mem_storeL.1 hs
  rw [h3]
  exact ⟨clsA_sg h h1 h2, h1, h2, bn_bs (segB_byte g s.l)⟩
theorem hd_in {g : Gr} (h : g.ok) {s : Sg} (hs : s ∈ storeL g) : 0 < hdS s ∧ hdS s ≤ (bn s.b).length ∧ (bn s.b).length ≤ 8000 := by
  obtain ⟨h1, h2, h3, h4⟩ := clsA_mem h hs
  have := clsG_in h h2 h3
  unfold hdS
  rw [h1, h4]
  exact ⟨this.1, this.2.1, seg_small h h2⟩
theorem row_in {g : Gr} (h : g.ok) {s : Sg} (hs : s ∈ storeL g) (c : Int) : (rowS s c).1 ≤ (rowS s c).2 ∧ (rowS s c).2 ≤ (bn s.b).length := by
  obtain ⟨h1, h2, h3, h4⟩ := clsA_mem h hs
  have hc := clsG_in h h2 h3
  unfold rowS
  rw [h1, h4]
  simp only []
  rcases find_mem (rows := (clsG g s.l).rows) (c := c) with e | ⟨r, hr, e⟩
  · rw [e]; simp
  · rw [e]; exact hc.2.2 r hr
/-- The pages that are read are pages of what there is. -/
theorem pages_in {g : Gr} (h : g.ok) {q : Qu} {p : Pg} (hp : p ∈ pagesL g q) : pgok p = true ∧ ∃ s ∈ storeL g, s.l = p.l ∧ p.a * 8 < (bn s.b).length := by
  unfold pagesL pagesS at hp
  rcases List.mem_append.1 hp with hp | hp
  · obtain ⟨s, hs, hp⟩ := List.mem_flatMap.1 hp
    have h1 := mem_span hp
    have h2 := hd_in h hs
    exact ⟨span_ok hp, s, hs, h1.1.symm, by omega⟩
  · obtain ⟨n, _, hp⟩ := List.mem_flatMap.1 hp
    obtain ⟨s, hs, hp⟩ := List.mem_flatMap.1 hp
    have h1 := mem_span hp
    have h2 := row_in h hs (cd n)
    exact ⟨span_ok hp, s, hs, h1.1.symm, by omega⟩
theorem pages_head {g : Gr} (h : g.ok) {q : Qu} {s : Sg} (hs : s ∈ storeL g) : (⟨s.l, 0⟩ : Pg) ∈ pagesL g q := by
  have h1 := hd_in h hs
  exact List.mem_append_left _ (List.mem_flatMap.2 ⟨s, hs, span_first (clsA_mem h hs).2.1 (by omega)⟩)
theorem pages_nil {g : Gr} {q : Qu} (hs : storeL g = []) : pagesL g q = [] := by
  unfold pagesL pagesS headsS
  rw [hs]
  simp [nodeS]
/-! ### Pools -/
def useP (p : Pl) (x : Pg) : Pl := ⟨p.z, (x :: p.l.filter (fun y => !decide (y = x))).take p.z.toNat⟩
def allS (s : Pl × Int) (x : Pg) : Pl × Int := (useP s.1 x, if x ∈ s.1.l then s.2 else s.2 + 1)
def allP (p : Pl) (list : List Pg) : Pl × Int := list.foldl allS (p, 0)
theorem allP_step {p : Pl} {list : List Pg} {k : Nat} {x : Pg} (h : list[k]? = some x) : allP p (list.take (k + 1)) = allS (allP p (list.take k)) x := foldl_take_succ _ _ h
theorem nodup_use {x : Pg} {l : List Pg} (h : l.Nodup) : (x :: l.filter (fun y => !decide (y = x))).Nodup := List.nodup_cons.2 ⟨by simp [List.mem_filter], h.filter _⟩
theorem PlOk.use {p : Pl} {x : Pg} (h : PlOk p) (hx : pgok x = true) : PlOk (useP p x) := by
  obtain ⟨⟨h1, h2, h3⟩, h4, h5⟩ := h
  refine ⟨⟨h1, h2, ?_⟩, fun y hy => ?_, (nodup_use h5).sublist (List.take_sublist _ _)⟩
  · simp only [useP, List.length_take]; omega
  · have := List.mem_of_mem_take hy
    rcases List.mem_cons.1 this with rfl | hy
    · exact hx
    · exact h4 y (List.mem_filter.1 hy).1
theorem allF_z : ∀ (list : List Pg) (s : Pl × Int), (list.foldl allS s).1.z = s.1.z
  | [], _ => rfl
  | x :: list, s => by rw [List.foldl_cons, allF_z list]; rfl
theorem allP_z (p : Pl) (list : List Pg) : (allP p list).1.z = p.z := allF_z _ _
theorem allF_n : ∀ (list : List Pg) (s : Pl × Int), s.2 ≤ (list.foldl allS s).2 ∧ (list.foldl allS s).2 ≤ s.2 + list.length
  | [], s => by simp
  | x :: list, s => by
    have := allF_n list (allS s x)
    have h2 : s.2 ≤ (allS s x).2 ∧ (allS s x).2 ≤ s.2 + 1 := by unfold allS; simp only []; split <;> omega
    rw [List.foldl_cons, List.length_cons]
    omega
theorem allP_n (p : Pl) (list : List Pg) : 0 ≤ (allP p list).2 ∧ (allP p list).2 ≤ list.length := by have := allF_n list (p, 0); simpa [allP] using this
theorem allF_ok : ∀ (list : List Pg) (s : Pl × Int), (∀ x ∈ list, pgok x = true) → PlOk s.1 → PlOk (list.foldl allS s).1
  | [], _, _, h => h
  | x :: list, s, hx, h => by rw [List.foldl_cons]; exact allF_ok list _ (fun y hy => hx y (List.mem_cons_of_mem _ hy)) (h.use (hx x List.mem_cons_self))
theorem PlOk.all {p : Pl} {list : List Pg} (h : PlOk p) (hx : ∀ x ∈ list, pgok x = true) : PlOk (allP p list).1 := allF_ok list _ hx h
/-- With no room all is missed. -/
theorem all_none : ∀ (list : List Pg) (n : Int), list.foldl allS (⟨0, []⟩, n) = (⟨0, []⟩, n + list.length)
  | [], n => by simp
  | x :: list, n => by
    rw [List.foldl_cons]
    have : allS (⟨0, []⟩, n) x = (⟨0, []⟩, n + 1) := by simp [allS, useP]
    rw [this, all_none list]
    simp only [List.length_cons, Prod.mk.injEq, true_and]
    omega
theorem all_first {z : Int} {list : List Pg} (h : list ≠ []) : 1 ≤ (allP ⟨z, []⟩ list).2 := by
  cases list with
  | nil => exact absurd rfl h
  | cons x list =>
    have := allF_n list (allS (⟨z, []⟩, 0) x)
    unfold allP
    rw [List.foldl_cons]
    have e : (allS (⟨z, []⟩, 0) x).2 = 1 := by simp [allS]
    omega
/-- A greater pool has what a lesser one has. -/
theorem take_use {x : Pg} {l : List Pg} (h : l.Nodup) (k : Nat) : (x :: (l.take k).filter (fun y => !decide (y = x))).take k = (x :: l.filter (fun y => !decide (y = x))).take k := by
  cases k with
  | zero => simp
  | succ k =>
    simp only [List.take_succ_cons, List.cons.injEq, true_and]
    rcases Nat.lt_or_ge (k + 1) l.length with hlt | hge
    · have hsp : l.filter (fun y => !decide (y = x)) = (l.take (k + 1)).filter (fun y => !decide (y = x)) ++ (l.drop (k + 1)).filter (fun y => !decide (y = x)) := by
        rw [← List.filter_append, List.take_append_drop]
      rw [hsp, List.take_append_of_le_length]
      have h1 : (l.take (k + 1)).length = k + 1 := by simp; omega
      have h2 := List.length_eq_countP_add_countP (fun y => !decide (y = x)) (l := l.take (k + 1))
      have h3 : (l.take (k + 1)).countP (fun y => decide ¬(!decide (y = x)) = true) ≤ 1 := by
        have : (l.take (k + 1)).countP (fun y => decide ¬(!decide (y = x)) = true) = (l.take (k + 1)).count x := by
          unfold List.count
          apply List.countP_congr
          intro y _
          simp
        rw [this]
        exact List.nodup_iff_count.1 (h.sublist (List.take_sublist _ _)) x
      rw [← List.countP_eq_length_filter]
      omega
    · rw [List.take_of_length_le hge]
theorem room_step {k : Nat} {s s' : Pl × Int} {x : Pg} (hz : s.1.z = k) (hz' : s'.1.z = k + 1) (hn : s'.1.l.Nodup) (hl : s.1.l = s'.1.l.take k) (hm : s'.2 ≤ s.2) :
    (allS s x).1.l = (allS s' x).1.l.take k ∧ (allS s' x).2 ≤ (allS s x).2 ∧ (allS s' x).1.l.Nodup := by
  have e1 : s.1.z.toNat = k := by omega
  have e2 : s'.1.z.toNat = k + 1 := by omega
  refine ⟨?_, ?_, ?_⟩
  · simp only [allS, useP, e1, e2, hl, List.take_take]
    rw [take_use hn]
    congr 1
    omega
  · simp only [allS]
    by_cases h : x ∈ s.1.l
    · have : x ∈ s'.1.l := by rw [hl] at h; exact List.mem_of_mem_take h
      rw [if_pos h, if_pos this]; exact hm
    · rw [if_neg h]
      split <;> omega
  · exact (nodup_use hn).sublist (List.take_sublist _ _)
theorem room_all {k : Nat} : ∀ (list : List Pg) (s s' : Pl × Int), s.1.z = k → s'.1.z = k + 1 → s'.1.l.Nodup → s.1.l = s'.1.l.take k → s'.2 ≤ s.2 →
    (list.foldl allS s).1.l = (list.foldl allS s').1.l.take k ∧ (list.foldl allS s').2 ≤ (list.foldl allS s).2
  | [], s, s', _, _, _, hl, hm => ⟨hl, hm⟩
  | x :: list, s, s', hz, hz', hn, hl, hm => by
    obtain ⟨a, b, c⟩ := room_step (x := x) hz hz' hn hl hm
    exact room_all list _ _ hz hz' c a b
/-- How many unlike ones there are. -/
def unlR : List Pg → Nat
  | [] => 0
  | x :: xs => (if x ∈ xs then 0 else 1) + unlR xs
def unl (l : List Pg) : Nat := unlR l.reverse
theorem unl_step {l : List Pg} {k : Nat} {x : Pg} (h : l[k]? = some x) : unl (l.take (k + 1)) = unl (l.take k) + if x ∈ l.take k then 0 else 1 := by
  unfold unl
  rw [List.take_add_one, h]
  simp only [Option.toList_some, List.reverse_append, List.reverse_cons, List.reverse_nil, List.nil_append, List.cons_append, unlR, List.mem_reverse]
  omega
theorem unl_take (l : List Pg) : ∀ k, unl (l.take k) ≤ unl l := by
  have h : ∀ (a b : List Pg), unlR b ≤ unlR (a ++ b) := by
    intro a b
    induction a with
    | nil => exact Nat.le_refl _
    | cons x a ih => simp only [List.cons_append, unlR]; omega
  intro k
  unfold unl
  conv => rhs; rw [← List.take_append_drop k l, List.reverse_append]
  exact h _ _
theorem len_without {x : Pg} {A : List Pg} (h : A.Nodup) : (A.filter (fun y => !decide (y = x))).length + (if x ∈ A then 1 else 0) = A.length := by
  induction A with
  | nil => rfl
  | cons a A ih =>
    obtain ⟨h1, h2⟩ := List.nodup_cons.1 h
    have ih := ih h2
    by_cases e : a = x
    · subst e
      rw [if_neg h1] at ih
      simp at ih ⊢
      omega
    · have e' : ¬ x = a := fun h => e h.symm
      simp only [List.filter_cons, e, decide_false, Bool.not_false, if_true, List.length_cons, List.mem_cons, e', false_or]
      omega
/-- Behind the first k uses the pages used are ahead in the pool, if there is room. -/
theorem recent {p : Pl} {l : List Pg} (hz : 0 ≤ p.z) (hu : (unl l : Int) ≤ p.z) : ∀ k, k ≤ l.length → ∃ A B, (allP p (l.take k)).1.l = A ++ B ∧ A.length = unl (l.take k) ∧ A.Nodup ∧ ∀ y, y ∈ A ↔ y ∈ l.take k
  | 0, _ => ⟨[], p.l, by simp [allP], by simp [unl, unlR], by simp, by simp⟩
  | k + 1, hk => by
    obtain ⟨A, B, h1, h2, h3, h4⟩ := recent hz hu k (by omega)
    obtain ⟨x, hx⟩ : ∃ x, l[k]? = some x := ⟨_, List.getElem?_eq_getElem (by omega)⟩
    have hzz := allP_z p (l.take k)
    have hun := unl_step hx
    have hul := unl_take l (k + 1)
    have hw := len_without (x := x) h3
    have hl : (x :: A.filter (fun y => !decide (y = x))).length = unl (l.take (k + 1)) := by
      rw [List.length_cons, hun, ← h2]
      by_cases hm : x ∈ A
      · rw [if_pos ((h4 x).1 hm)]; rw [if_pos hm] at hw; omega
      · rw [if_neg (fun h => hm ((h4 x).2 h))]; rw [if_neg hm] at hw; omega
    refine ⟨x :: A.filter (fun y => !decide (y = x)), (B.filter (fun y => !decide (y = x))).take (p.z.toNat - unl (l.take (k + 1))), ?_, hl, nodup_use h3, fun y => ?_⟩
    · rw [allP_step hx]
      simp only [allS, useP, h1, hzz, List.filter_append]
      rw [← List.cons_append, List.take_append, hl, List.take_of_length_le (by omega)]
    · rw [List.take_add_one, hx]
      simp only [Option.toList_some, List.mem_cons, List.mem_filter, List.mem_append, Bool.not_eq_true', decide_eq_false_iff_not, h4]
      by_cases e : y = x <;> simp [e]
theorem all_there {p : Pl} {l : List Pg} (hz : 0 ≤ p.z) (hu : (unl l : Int) ≤ p.z) : ∀ x ∈ l, x ∈ (allP p l).1.l := fun x hx => by
  obtain ⟨A, B, h1, _, _, h4⟩ := recent hz hu l.length (Nat.le_refl _)
  rw [List.take_length] at h1 h4
  rw [h1]
  exact List.mem_append_left _ ((h4 x).2 hx)
/-- Where all is there nothing is missed, and nothing goes. -/
theorem all_hit : ∀ (l : List Pg) (p : Pl) (n : Int), PlOk p → (∀ x ∈ l, x ∈ p.l) → (l.foldl allS (p, n)).2 = n ∧ (l.foldl allS (p, n)).1.l.length = p.l.length ∧ ∀ y, y ∈ (l.foldl allS (p, n)).1.l ↔ y ∈ p.l
  | [], p, n, _, _ => ⟨rfl, rfl, fun _ => Iff.rfl⟩
  | x :: l, p, n, hp, h => by
    have hx := h x List.mem_cons_self
    have hw := len_without (x := x) hp.2.2
    rw [if_pos hx] at hw
    have hlen := hp.1
    have hu : (useP p x).l = x :: p.l.filter (fun y => !decide (y = x)) := by
      simp only [useP]
      rw [List.take_of_length_le]
      simp only [List.length_cons]; omega
    have hm : ∀ y, y ∈ (useP p x).l ↔ y ∈ p.l := fun y => by
      rw [hu]
      simp only [List.mem_cons, List.mem_filter, Bool.not_eq_true', decide_eq_false_iff_not]
      by_cases e : y = x
      · subst e; simp [hx]
      · simp [e]
    have hok : PlOk (useP p x) := ⟨⟨hp.1.1, hp.1.2.1, by rw [hu]; simp only [useP, List.length_cons]; omega⟩, fun y hy => hp.2.1 y ((hm y).1 hy), by rw [hu]; exact nodup_use hp.2.2⟩
    obtain ⟨a, b, c⟩ := all_hit l (useP p x) n hok (fun y hy => (hm y).2 (h y (List.mem_cons_of_mem _ hy)))
    rw [List.foldl_cons]
    have e : allS (p, n) x = (useP p x, n) := by simp only [allS]; rw [if_pos hx]
    rw [e]
    refine ⟨a, ?_, fun y => (c y).trans (hm y)⟩
    rw [b, hu, List.length_cons]; omega
end E
end Go.Proofs.Ytjdagbicjhmeeaa
/- Worlds, and what can not be seen (plain). -/
namespace Go.Proofs.Ytjdagbicjhmeeaa
namespace E
open Go
set_option linter.unusedVariables false
/-! ### Worlds -/
structure Td where
  c : Int
  a : List Int
  r : Int
  deriving DecidableEq
def Wd.g (d : Wd) : Gr := ⟨d.ns, d.es⟩
def Wd.put (d : Wd) (g : Gr) : Wd := { d with ns := g.ns, es := g.es }
abbrev wd0 : Wd := ⟨[], [], [], [], []⟩
def newW (ps : List Pe) : Wd := if PsOk ps then ⟨ps, [], [], ps.map (fun p => ⟨p.z, []⟩), ps.map (fun p => p.q)⟩ else wd0
def peD : Pe := ⟨0, 0, 0⟩
def plD : Pl := ⟨0, []⟩
def Wd.pe (d : Wd) (i : Nat) : Pe := d.ps.getD i peD
def Wd.pl (d : Wd) (i : Nat) : Pl := d.qs.getD i plD
def Wd.lf (d : Wd) (i : Nat) : Int := d.ls.getD i 0
def readP (d : Wd) (i : Nat) (q : Qu) : Pl × Int := allP (d.pl i) (pagesL (view d.g (d.pe i).c) q)
/-- What is done in a right world by one of the people. -/
def doI (d : Wd) (i : Nat) (e : Ev) : Wd × Td :=
  if e.k = 1 then
    if olab e.o < 0 then (d, ⟨1, [], 0⟩)
    else if und (olab e.o) (d.pe i).c = false then (d, ⟨5, [], 0⟩)
    else (d.put (doG d.g e.o).1, ⟨(doG d.g e.o).2, [], 0⟩)
  else if e.k = 2 then
    if qok e.q = false then (d, ⟨1, [], 0⟩)
    else if d.lf i < (readP d i e.q).2 then ({ d with ls := d.ls.set i 0 }, ⟨6, [], d.lf i⟩)
    else ({ d with qs := d.qs.set i (readP d i e.q).1, ls := d.ls.set i (d.lf i - (readP d i e.q).2) }, ⟨0, askG (view d.g (d.pe i).c) e.q, (readP d i e.q).2⟩)
  else if e.k = 3 then ({ d with ls := d.ls.set i (d.pe i).q }, ⟨0, [], 0⟩)
  else (d, ⟨1, [], 0⟩)
def doW (d : Wd) (e : Ev) : Wd × Td := if e.w < 0 ∨ (d.ps.length : Int) ≤ e.w then (d, ⟨1, [], 0⟩) else doI d e.w.toNat e
noncomputable def worldDo (d : Wd) (e : Ev) : Wd × Td := @ite _ (WOk d) (Classical.propDecidable _) (doW d e) (wd0, ⟨1, [], 0⟩)
theorem getD_some {α : Type} {xs : List α} {i : Nat} {x d : α} (h : xs[i]? = some x) : xs.getD i d = x := by simp [List.getD_eq_getElem?_getD, h]
theorem WOk.ok {d : Wd} (h : WOk d) : d.g.ok := Gr.ok_iff.2 h.2.1
structure Per (d : Wd) (i : Nat) : Prop where
  p : d.ps[i]? = some (d.pe i)
  q : d.qs[i]? = some (d.pl i)
  l : d.ls[i]? = some (d.lf i)
  pok : pok (d.pe i) = true
  qok : PlOk (d.pl i)
  z : (d.pl i).z = (d.pe i).z
  lo : 0 ≤ d.lf i
  hi : d.lf i ≤ (d.pe i).q
theorem WOk.per {d : Wd} (h : WOk d) {i : Nat} (hi : i < d.ps.length) : Per d i := by
  obtain ⟨h1, h2, h3, h4, h5⟩ := h
  obtain ⟨p, hp⟩ : ∃ p, d.ps[i]? = some p := ⟨_, List.getElem?_eq_getElem hi⟩
  obtain ⟨q, hq⟩ : ∃ q, d.qs[i]? = some q := ⟨_, List.getElem?_eq_getElem (by omega)⟩
  obtain ⟨l, hl⟩ : ∃ l, d.ls[i]? = some l := ⟨_, List.getElem?_eq_getElem (by omega)⟩
  have := h5 i p q l hp hq hl
  have e1 : d.pe i = p := getD_some hp
  have e2 : d.pl i = q := getD_some hq
  have e3 : d.lf i = l := getD_some hl
  exact ⟨by rw [e1]; exact hp, by rw [e2]; exact hq, by rw [e3]; exact hl, by rw [e1]; exact h1.1 p (List.mem_of_getElem? hp), by rw [e2]; exact this.1, by rw [e1, e2]; exact this.2.1, by rw [e3]; exact this.2.2.1, by rw [e1, e3]; exact this.2.2.2⟩
theorem set_get {α : Type} {xs : List α} {i j : Nat} {x y : α} (h : (xs.set i x)[j]? = some y) : (i = j ∧ y = x) ∨ (i ≠ j ∧ xs[j]? = some y) := by
  rw [List.getElem?_set] at h
  split at h
  · rename_i e
    split at h
    · injection h with h; exact Or.inl ⟨e, h.symm⟩
    · cases h
  · rename_i e; exact Or.inr ⟨e, h⟩
/-- A right world in which what one of the people has is turned to what is right. -/
theorem WOk.set {d : Wd} (h : WOk d) {i : Nat} (hi : i < d.ps.length) {q : Pl} {l : Int} (hq : PlOk q) (hz : q.z = (d.pe i).z) (hl : 0 ≤ l ∧ l ≤ (d.pe i).q) : WOk { d with qs := d.qs.set i q, ls := d.ls.set i l } := by
  have hp := (h.per hi).p
  obtain ⟨h1, h2, h3, h4, h5⟩ := h
  refine ⟨h1, h2, by simpa using h3, by simpa using h4, fun j p' q' l' hp' hq' hl' => ?_⟩
  simp only at hp' hq' hl'
  rcases set_get hq' with ⟨e, eq⟩ | ⟨e, hq'⟩
  · rcases set_get hl' with ⟨e', el⟩ | ⟨e', _⟩
    · subst e
      rw [hp] at hp'; injection hp' with hp'
      rw [eq, el, ← hp']
      exact ⟨hq, hz, hl⟩
    · exact absurd e e'
  · rcases set_get hl' with ⟨e', _⟩ | ⟨_, hl'⟩
    · exact absurd e' e
    · exact h5 j p' q' l' hp' hq' hl'
theorem set_same {α : Type} {xs : List α} {i : Nat} {x : α} (h : xs[i]? = some x) : xs.set i x = xs := by
  apply List.ext_getElem?
  intro j
  rw [List.getElem?_set]
  split
  · rename_i e; subst e
    rw [if_pos (List.getElem?_eq_some_iff.1 h).1, h]
  · rfl
theorem WOk.setl {d : Wd} (h : WOk d) {i : Nat} (hi : i < d.ps.length) {l : Int} (hl : 0 ≤ l ∧ l ≤ (d.pe i).q) : WOk { d with ls := d.ls.set i l } := by
  have hp := h.per hi
  have := h.set hi hp.qok hp.z hl
  rwa [set_same hp.q] at this
theorem readP_ok {d : Wd} (h : WOk d) {i : Nat} (hi : i < d.ps.length) (q : Qu) : PlOk (readP d i q).1 ∧ (readP d i q).1.z = (d.pe i).z ∧ 0 ≤ (readP d i q).2 := by
  have hp := h.per hi
  refine ⟨hp.qok.all (fun x hx => (pages_in h.ok.view hx).1), by rw [← hp.z]; exact allP_z _ _, (allP_n _ _).1⟩
theorem WOk.put {d : Wd} (h : WOk d) {g : Gr} (hg : g.ok) : WOk (d.put g) := ⟨h.1, Gr.ok_iff.1 hg, h.2.2.1, h.2.2.2.1, h.2.2.2.2⟩
theorem WOk.doI {d : Wd} (h : WOk d) {i : Nat} (hi : i < d.ps.length) (e : Ev) : WOk (doI d i e).1 := by
  have hp := h.per hi
  unfold E.doI
  split
  · split
    · exact h
    · split
      · exact h
      · exact h.put h.ok.doG
  · split
    · split
      · exact h
      · obtain ⟨a, b, c⟩ := readP_ok h hi e.q
        split
        · exact h.setl hi ⟨Int.le_refl _, Int.le_trans hp.lo hp.hi⟩
        · rename_i hn
          exact h.set hi a b ⟨by omega, by have := hp.hi; omega⟩
    · split
      · exact h.setl hi ⟨Int.le_trans hp.lo hp.hi, Int.le_refl _⟩
      · exact h
theorem WOk.doW {d : Wd} (h : WOk d) (e : Ev) : WOk (doW d e).1 := by
  unfold E.doW
  split
  · exact h
  · rename_i hn
    exact h.doI (by omega) e
theorem wok_new {ps : List Pe} (h : PsOk ps) : WOk (newW ps) := by
  unfold newW
  rw [if_pos h]
  refine ⟨h, gok_iff.2 ⟨⟨by simp, by simp, by simp⟩, ⟨by simp, by simp, by simp⟩⟩, by simp, by simp, fun i p q l hp hq hl => ?_⟩
  simp only [List.getElem?_map, Option.map_eq_some_iff] at hq hl
  obtain ⟨p1, hp1, rfl⟩ := hq
  obtain ⟨p2, hp2, rfl⟩ := hl
  rw [hp] at hp1 hp2
  injection hp1 with hp1; injection hp2 with hp2
  subst hp1; subst hp2
  have := h.1 _ (List.mem_of_getElem? hp)
  simp only [pok, Bool.and_eq_true, decide_eq_true_eq] at this
  exact ⟨⟨⟨this.1.2.1, this.1.2.2, by simp; exact this.1.2.1⟩, by simp, by simp⟩, rfl, this.2.1, Int.le_refl _⟩
theorem wok_zero : WOk wd0 := by
  have := wok_new (ps := []) ⟨by simp, by simp⟩
  simpa [newW] using this
theorem wok_newW (ps : List Pe) : WOk (newW ps) := by
  by_cases h : PsOk ps
  · exact wok_new h
  · unfold newW; rw [if_neg h]; exact wok_zero
/-! ### Plays -/
def runS (s : Wd × List Td) (e : Ev) : Wd × List Td := ((doW s.1 e).1, s.2 ++ [(doW s.1 e).2])
def runW (d : Wd) (evs : List Ev) : Wd × List Td := evs.foldl runS (d, [])
theorem runW_step {d : Wd} {evs : List Ev} {k : Nat} {e : Ev} (h : evs[k]? = some e) : runW d (evs.take (k + 1)) = runS (runW d (evs.take k)) e := foldl_take_succ _ _ h
theorem runF_ok : ∀ (evs : List Ev) (s : Wd × List Td), WOk s.1 → WOk (evs.foldl runS s).1
  | [], _, h => h
  | e :: evs, s, h => by rw [List.foldl_cons]; exact runF_ok evs _ (h.doW e)
theorem runW_ok {d : Wd} (h : WOk d) (evs : List Ev) : WOk (runW d evs).1 := runF_ok evs _ h
theorem runF_len : ∀ (evs : List Ev) (s : Wd × List Td), (evs.foldl runS s).2.length = s.2.length + evs.length
  | [], s => by simp
  | e :: evs, s => by rw [List.foldl_cons, runF_len evs]; simp [runS]; omega
theorem runW_len (d : Wd) (evs : List Ev) : (runW d evs).2.length = evs.length := by unfold runW; rw [runF_len]; simp
theorem runF_app : ∀ (evs : List Ev) (d : Wd) (t : List Td), evs.foldl runS (d, t) = ((runW d evs).1, t ++ (runW d evs).2)
  | [], d, t => by simp [runW]
  | e :: evs, d, t => by
    have h1 := runF_app evs (doW d e).1 (t ++ [(doW d e).2])
    have h2 := runF_app evs (doW d e).1 [(doW d e).2]
    unfold runW
    simp only [List.foldl_cons, runS, List.nil_append] at h1 h2 ⊢
    rw [h1, h2]
    simp
theorem runW_cons (d : Wd) (e : Ev) (evs : List Ev) : runW d (e :: evs) = ((runW (doW d e).1 evs).1, (doW d e).2 :: (runW (doW d e).1 evs).2) := by
  have := runF_app evs (doW d e).1 [(doW d e).2]
  unfold runW at this ⊢
  rw [List.foldl_cons]
  simp only [runS, List.nil_append]
  rw [this]
  simp
theorem runW_append (d : Wd) (a b : List Ev) : runW d (a ++ b) = ((runW (runW d a).1 b).1, (runW d a).2 ++ (runW (runW d a).1 b).2) := by
  unfold runW
  rw [List.foldl_append]
  exact runF_app b _ _
def playW (ps : List Pe) (evs : List Ev) : Wd × List Td := if PsOk ps ∧ evs.length ≤ 80 then runW (newW ps) evs else (wd0, [])
def lowP (ps : List Pe) (c : Int) (e : Ev) : Bool := decide (0 ≤ e.w) && decide (e.w < ps.length) && lun (ps.getD e.w.toNat peD).c c
def seen2 (ps : List Pe) (c : Int) (l : List (Ev × Td)) : List Td := (l.filter (fun x => lowP ps c x.1)).map (·.2)
def seenW (ps : List Pe) (evs : List Ev) (c : Int) : List Td := seen2 ps c (evs.zip (playW ps evs).2)
def keepE (ps : List Pe) (c : Int) (e : Ev) : Bool := lowP ps c e || (decide (e.k = 1) && lun (olab e.o) c)
def purgeW (ps : List Pe) (evs : List Ev) (c : Int) : List Ev := evs.filter (keepE ps c)
/-! ### What can not be seen bears on nothing -/
structure Rl (c : Int) (d d' : Wd) : Prop where
  ok : WOk d
  ok' : WOk d'
  ps : d'.ps = d.ps
  vw : view d.g c = view d'.g c
  lo : ∀ i, i < d.ps.length → lun (d.pe i).c c = true → d.pl i = d'.pl i ∧ d.lf i = d'.lf i
theorem Rl.refl {c : Int} {d : Wd} (h : WOk d) : Rl c d d := ⟨h, h, rfl, rfl, fun _ _ _ => ⟨rfl, rfl⟩⟩
theorem olab_neg {o : Opn} (h : olab o < 0) (c : Int) : lun (olab o) c = false := by
  cases hl : lun (olab o) c with
  | false => rfl
  | true => have := lok_iff.1 (lun_iff.1 hl).1; omega
theorem pl_set {d : Wd} {i j : Nat} {q : Pl} {l : Int} (hij : i ≠ j) : ({ d with qs := d.qs.set i q, ls := d.ls.set i l } : Wd).pl j = d.pl j ∧ ({ d with qs := d.qs.set i q, ls := d.ls.set i l } : Wd).lf j = d.lf j := by
  simp [Wd.pl, Wd.lf, List.getD_eq_getElem?_getD, hij]
theorem pl_setl {d : Wd} {i j : Nat} {l : Int} (hij : i ≠ j) : ({ d with ls := d.ls.set i l } : Wd).lf j = d.lf j := by
  simp [Wd.lf, List.getD_eq_getElem?_getD, hij]
/-- Of those who are not low, and what is not put under the label, the low ones note nothing. -/
theorem Rl.skip {c : Int} {d d' : Wd} {e : Ev} (h : Rl c d d') (hk : keepE d.ps c e = false) : Rl c (doW d e).1 d' := by
  simp only [keepE, Bool.or_eq_false_iff] at hk
  obtain ⟨hk1, hk2⟩ := hk
  unfold doW
  split
  · exact h
  · rename_i hw
    have hi : e.w.toNat < d.ps.length := by omega
    have hlow : lun (d.pe e.w.toNat).c c = false := by
      simp only [lowP, Bool.and_eq_false_iff, decide_eq_false_iff_not] at hk1
      rcases hk1 with (h1 | h1) | h1
      · omega
      · omega
      · exact h1
    have hne : ∀ j, lun (d.pe j).c c = true → e.w.toNat ≠ j := fun j hj e' => by subst e'; rw [hlow] at hj; cases hj
    have hok := h.ok.doI hi e
    unfold doI at hok ⊢
    by_cases k1 : e.k = 1
    · simp only [k1, decide_true, Bool.true_and] at hk2
      simp only [k1, if_true] at hok ⊢
      split
      · exact h
      · split
        · exact h
        · rename_i h1 h2
          rw [if_neg h1, if_neg h2] at hok
          exact ⟨hok, h.ok', h.ps, by
            have : view (d.put (doG d.g e.o).1).g c = view (doG d.g e.o).1 c := rfl
            rw [this, view_do_no h.ok.ok hk2]; exact h.vw, fun i hi hl => h.lo i hi hl⟩
    · simp only [k1, if_false] at hok ⊢
      by_cases k2 : e.k = 2
      · simp only [k2, if_true] at hok ⊢
        split
        · exact h
        · rename_i h1
          rw [if_neg h1] at hok
          split
          · rename_i h2
            rw [if_pos h2] at hok
            exact ⟨hok, h.ok', h.ps, h.vw, fun i hi hl => by rw [pl_setl (hne i hl)]; exact h.lo i hi hl⟩
          · rename_i h2
            rw [if_neg h2] at hok
            exact ⟨hok, h.ok', h.ps, h.vw, fun i hi hl => by
              obtain ⟨a, b⟩ := pl_set (d := d) (q := (readP d e.w.toNat e.q).1) (l := d.lf e.w.toNat - (readP d e.w.toNat e.q).2) (hne i hl)
              rw [a, b]; exact h.lo i hi hl⟩
      · simp only [k2, if_false] at hok ⊢
        split
        · rename_i h3
          rw [if_pos h3] at hok
          exact ⟨hok, h.ok', h.ps, h.vw, fun i hi hl => by rw [pl_setl (hne i hl)]; exact h.lo i hi hl⟩
        · exact h
theorem Rl.symm {c : Int} {d d' : Wd} (h : Rl c d d') : Rl c d' d := ⟨h.ok', h.ok, h.ps.symm, h.vw.symm, fun i hi hl => by
  have e : d'.pe i = d.pe i := by unfold Wd.pe; rw [h.ps]
  rw [e] at hl
  rw [h.ps] at hi
  have := h.lo i hi hl
  exact ⟨this.1.symm, this.2.symm⟩⟩
/-- What is kept is done, and told to the low ones, in both worlds alike. -/
theorem Rl.step {c : Int} {d d' : Wd} {e : Ev} (h : Rl c d d') : Rl c (doW d e).1 (doW d' e).1 ∧ (lowP d.ps c e = true → (doW d e).2 = (doW d' e).2) := by
  by_cases hk : keepE d.ps c e = false
  · have h1 := h.skip hk
    have h2 := (h1.symm.skip (e := e) (by
      have : (doW d e).1.ps = d.ps := by rw [← h1.ps, h.ps]
      rw [h.ps]; exact hk)).symm
    refine ⟨h2, fun hl => ?_⟩
    simp only [keepE, Bool.or_eq_false_iff] at hk
    rw [hk.1] at hl; cases hl
  have hkeep : keepE d.ps c e = true := by simpa using hk
  have hpe : ∀ i, d'.pe i = d.pe i := fun i => by unfold Wd.pe; rw [h.ps]
  unfold doW
  rw [h.ps]
  by_cases hw : e.w < 0 ∨ (d.ps.length : Int) ≤ e.w
  · rw [if_pos hw, if_pos hw]
    exact ⟨h, fun _ => rfl⟩
  rw [if_neg hw, if_neg hw]
  have hi : e.w.toNat < d.ps.length := by omega
  have hi' : e.w.toNat < d'.ps.length := by rw [h.ps]; exact hi
  have hok := h.ok.doI hi e
  have hok' := h.ok'.doI hi' e
  unfold doI at hok hok' ⊢
  rw [hpe] at *
  by_cases k1 : e.k = 1
  · simp only [k1, if_true] at hok hok' ⊢
    by_cases h1 : olab e.o < 0
    · rw [if_pos h1, if_pos h1]
      exact ⟨h, fun _ => rfl⟩
    rw [if_neg h1] at hok hok' ⊢
    rw [if_neg h1]
    by_cases h2 : und (olab e.o) (d.pe e.w.toNat).c = false
    · rw [if_pos h2, if_pos h2]
      exact ⟨h, fun _ => rfl⟩
    rw [if_neg h2] at hok hok' ⊢
    rw [if_neg h2]
    have hvis : lun (olab e.o) c = true := by
      simp only [keepE, Bool.or_eq_true, Bool.and_eq_true] at hkeep
      rcases hkeep with hl | hl
      · simp only [lowP, Bool.and_eq_true] at hl
        have h2' : und (olab e.o) (d.pe e.w.toNat).c = true := by cases hb : und (olab e.o) (d.pe e.w.toNat).c with
          | true => rfl
          | false => exact absurd hb h2
        exact lun_trans (lun_iff.2 ⟨olab_lok (by omega), (lun_iff.1 hl.2).1, h2'⟩) hl.2
      · exact hl.2
    obtain ⟨a1, a2⟩ := view_do_yes (g := d.g) (by omega) hvis
    obtain ⟨b1, b2⟩ := view_do_yes (g := d'.g) (by omega) hvis
    refine ⟨⟨hok, hok', h.ps, ?_, fun i hi hl => h.lo i hi hl⟩, fun _ => ?_⟩
    · show view (doG d.g e.o).1 c = view (doG d'.g e.o).1 c
      rw [a1, b1, h.vw]
    · rw [a2, b2, h.vw]
  have hlow : lun (d.pe e.w.toNat).c c = true := by
    simp only [keepE, Bool.or_eq_true, Bool.and_eq_true, k1, decide_false, Bool.false_eq_true, false_and, or_false] at hkeep
    simp only [lowP, Bool.and_eq_true] at hkeep
    exact hkeep.2
  obtain ⟨e1, e2⟩ := h.lo _ hi hlow
  have e3 : view d'.g (d.pe e.w.toNat).c = view d.g (d.pe e.w.toNat).c := by rw [← view_view (g := d.g) hlow, ← view_view (g := d'.g) hlow, h.vw]
  have e4 : ∀ q, readP d' e.w.toNat q = readP d e.w.toNat q := fun q => by unfold readP; rw [hpe, e3, e1]
  simp only [k1, if_false] at hok hok' ⊢
  have hset : ∀ (q : Pl) (l : Int), WOk { d with qs := d.qs.set e.w.toNat q, ls := d.ls.set e.w.toNat l } → WOk { d' with qs := d'.qs.set e.w.toNat q, ls := d'.ls.set e.w.toNat l } → Rl c { d with qs := d.qs.set e.w.toNat q, ls := d.ls.set e.w.toNat l } { d' with qs := d'.qs.set e.w.toNat q, ls := d'.ls.set e.w.toNat l } := fun q l o o' =>
    ⟨o, o', h.ps, h.vw, fun i hi2 hl => by
      by_cases hij : e.w.toNat = i
      · subst hij
        have l1 := (h.ok.per hi).q; have l2 := (h.ok'.per hi').q; have l3 := (h.ok.per hi).l; have l4 := (h.ok'.per hi').l
        have m1 := (List.getElem?_eq_some_iff.1 l1).1; have m2 := (List.getElem?_eq_some_iff.1 l2).1; have m3 := (List.getElem?_eq_some_iff.1 l3).1; have m4 := (List.getElem?_eq_some_iff.1 l4).1
        simp [Wd.pl, Wd.lf, List.getD_eq_getElem?_getD, m1, m2, m3, m4]
      · obtain ⟨a, b⟩ := pl_set (d := d) (q := q) (l := l) hij
        obtain ⟨a', b'⟩ := pl_set (d := d') (q := q) (l := l) hij
        rw [a, b, a', b']
        exact h.lo i hi2 hl⟩
  have hsetl : ∀ (l : Int), WOk { d with ls := d.ls.set e.w.toNat l } → WOk { d' with ls := d'.ls.set e.w.toNat l } → Rl c { d with ls := d.ls.set e.w.toNat l } { d' with ls := d'.ls.set e.w.toNat l } := fun l o o' => by
    have := hset (d.pl e.w.toNat) l
    rw [set_same (h.ok.per hi).q, e1, set_same (h.ok'.per hi').q] at this
    exact this o o'
  by_cases k2 : e.k = 2
  · simp only [k2, if_true, e4, ← e2] at hok hok' ⊢
    by_cases h1 : qok e.q = false
    · rw [if_pos h1, if_pos h1]
      exact ⟨h, fun _ => rfl⟩
    rw [if_neg h1] at hok hok' ⊢
    rw [if_neg h1]
    by_cases h2 : d.lf e.w.toNat < (readP d e.w.toNat e.q).2
    · rw [if_pos h2] at hok hok' ⊢
      rw [if_pos h2]
      exact ⟨hsetl _ hok hok', fun _ => rfl⟩
    · rw [if_neg h2] at hok hok' ⊢
      rw [if_neg h2]
      exact ⟨hset _ _ hok hok', fun _ => by rw [e3]⟩
  · simp only [k2, if_false] at hok hok' ⊢
    by_cases k3 : e.k = 3
    · rw [if_pos k3] at hok hok' ⊢
      rw [if_pos k3]
      exact ⟨hsetl _ hok hok', fun _ => rfl⟩
    · rw [if_neg k3, if_neg k3]
      exact ⟨h, fun _ => rfl⟩
/-- The second list is the first without some of what is not kept. -/
inductive Thin (ps : List Pe) (c : Int) : List Ev → List Ev → Prop where
  | nil : Thin ps c [] []
  | keep {e : Ev} {a b : List Ev} (h : Thin ps c a b) : Thin ps c (e :: a) (e :: b)
  | drop {e : Ev} {a b : List Ev} (hk : keepE ps c e = false) (h : Thin ps c a b) : Thin ps c (e :: a) b
theorem Thin.refl (ps : List Pe) (c : Int) : ∀ a, Thin ps c a a
  | [] => .nil
  | e :: a => .keep (Thin.refl ps c a)
theorem Thin.filter (ps : List Pe) (c : Int) : ∀ a, Thin ps c a (a.filter (keepE ps c))
  | [] => .nil
  | e :: a => by
    rw [List.filter_cons]
    split
    · exact .keep (Thin.filter ps c a)
    · rename_i h; exact .drop (by simpa using h) (Thin.filter ps c a)
theorem Thin.app {ps : List Pe} {c : Int} {a b : List Ev} (x : List Ev) (h : Thin ps c a b) : Thin ps c (x ++ a) (x ++ b) := by
  induction x with
  | nil => exact h
  | cons e x ih => exact .keep ih
theorem Thin.len {ps : List Pe} {c : Int} {a b : List Ev} (h : Thin ps c a b) : b.length ≤ a.length := by
  induction h with
  | nil => exact Nat.le_refl _
  | keep _ ih => simp only [List.length_cons]; omega
  | drop _ _ ih => simp only [List.length_cons]; omega
theorem doW_ps (d : Wd) (e : Ev) : (doW d e).1.ps = d.ps := by
  unfold doW
  split
  · rfl
  · unfold doI
    split
    · split
      · rfl
      · split <;> rfl
    · split
      · split
        · rfl
        · split <;> rfl
      · split <;> rfl
theorem Thin.run {c : Int} {a b : List Ev} {ps : List Pe} (h : Thin ps c a b) : ∀ {d d' : Wd}, Rl c d d' → d.ps = ps → Rl c (runW d a).1 (runW d' b).1 ∧ seen2 ps c (a.zip (runW d a).2) = seen2 ps c (b.zip (runW d' b).2) := by
  induction h with
  | nil => intro d d' hr _; exact ⟨hr, rfl⟩
  | @keep e a b h ih =>
    intro d d' hr hp
    obtain ⟨h1, h2⟩ := hr.step (e := e)
    obtain ⟨i1, i2⟩ := ih h1 (by rw [doW_ps, hp])
    rw [runW_cons, runW_cons]
    refine ⟨i1, ?_⟩
    simp only [List.zip_cons_cons, seen2, List.filter_cons] at i2 ⊢
    by_cases hl : lowP ps c e = true
    · simp only [hl, if_true, List.map_cons]
      rw [h2 (by rw [hp]; exact hl)]
      exact congrArg _ i2
    · simp only [hl]; exact i2
  | @drop e a b hk h ih =>
    intro d d' hr hp
    have h1 := hr.skip (e := e) (by rw [hp]; exact hk)
    obtain ⟨i1, i2⟩ := ih h1 (by rw [doW_ps, hp])
    rw [runW_cons]
    refine ⟨i1, ?_⟩
    simp only [List.zip_cons_cons, seen2, List.filter_cons] at i2 ⊢
    have hl : ¬ lowP ps c e = true := by
      simp only [keepE, Bool.or_eq_false_iff] at hk
      simp [hk.1]
    simp only [hl]; exact i2
theorem newW_ps {ps : List Pe} (h : PsOk ps) : (newW ps).ps = ps := by unfold newW; rw [if_pos h]
/-- What the low ones are told does not hang on what they can not see. -/
theorem seen_thin {ps : List Pe} {a b : List Ev} {c : Int} (h : Thin ps c a b) (hl : a.length ≤ 80) : seenW ps a c = seenW ps b c ∧ (PsOk ps → Rl c (playW ps a).1 (playW ps b).1) := by
  have hb := h.len
  unfold seenW playW
  by_cases hp : PsOk ps
  · rw [if_pos ⟨hp, hl⟩, if_pos ⟨hp, by omega⟩]
    obtain ⟨h1, h2⟩ := h.run (Rl.refl (c := c) (wok_newW ps)) (newW_ps hp)
    exact ⟨h2, fun _ => h1⟩
  · rw [if_neg (fun h => hp h.1), if_neg (fun h => hp h.1)]
    exact ⟨by simp [seen2], fun h => absurd h hp⟩
end E
end Go.Proofs.Ytjdagbicjhmeeaa
