/- The engine, second edition: one rule a kind of step, with what it asks found by itself. -/
import Derived.Test.YtpiiapoafmnhhaaGreatM01
namespace Go.Proofs.YtpiiapoafmnhhaaGreat
namespace E
set_option linter.unusedSimpArgs false
set_option linter.unusedVariables false
open Go Go.RowKit

/-- Lists of operations: one behind the other (l); quiet, in whatever order (q); in whatever order, some making or writing memory (x: up to operation s the chunks Kp stay; is: the numbers of the operations, in the order in which they are looked at). -/
inductive Md where
  | l
  | q
  | x (s : Nat) (Kp : List Ck) (is : List Nat)
  | y (s : Nat) (Kp : List Ck) (i : Nat) (is : List Nat)
def inB : List Nat → Nat → Bool
  | [], _ => false
  | k :: ks, n => match Nat.beq k n with
    | true => true
    | false => inB ks n
theorem inB_cons {k n : Nat} {ks : List Nat} : inB (k :: ks) n = (Nat.beq k n || inB ks n) := by
  simp only [inB]; cases Nat.beq k n <;> rfl
theorem inB_iff {n : Nat} {ks : List Nat} : inB ks n = true ↔ n ∈ ks := by
  induction ks with
  | nil => simp [inB]
  | cons k ks ih =>
    rw [inB_cons, Bool.or_eq_true, ih, List.mem_cons]
    constructor
    · rintro (h | h)
      · exact Or.inl (Nat.eq_of_beq_eq_true h).symm
      · exact Or.inr h
    · rintro (rfl | h)
      · exact Or.inl (Nat.beq_refl n)
      · exact Or.inr h
/-- What is listed, where 'is' is not. -/
def lst (n : Nat) (is : List Nat) : Array Bool := (Array.range n).map fun j => !inB is j
/-- These operations, by their numbers. -/
inductive Gath (ops : List Oper) : List Nat → List Oper → Prop where
  | nil : Gath ops [] []
  | cons {i : Nat} {is : List Nat} {o : Oper} {l : List Oper} (hi : ops[i]? = some o) (h : Gath ops is l) : Gath ops (i :: is) (o :: l)
def HG (P : Program) (N : Nat) (w0 : World) (ops : Array Oper) (Q : Exit → Act → World → Prop) (m : Md) (l : List Oper) (F : List (Nat × En)) (K : List Ck) : Prop := match m with
  | .l => HL P N w0 ops Q l F K
  | .q => HQ P N w0 K ops Q l F
  | .x s Kp is => Gath ops.toList is l → is.Nodup → HX P N w0 ops Q s Kp l.length (lst ops.size is) F K
  | .y s Kp i is => Gath ops.toList (i :: is) l → (i :: is).Nodup → OneX P N w0 ops Q s Kp (l.length - 1) (lst ops.size (i :: is)) F K [i]
theorem lst_set {n i : Nat} {is : List Nat} (h : i < n) (hn : (i :: is).Nodup) : (lst n (i :: is)).setIfInBounds i true = lst n is := by
  have hs : ∀ is, (lst n is).size = n := fun is => by simp [lst]
  apply Array.ext_getElem?
  intro j
  have e : ∀ is, (lst n is)[j]? = if j < n then some (!inB is j) else none := fun is => by
    by_cases hj : j < n <;> simp [lst, hj]
  rw [Array.getElem?_setIfInBounds, e, e, hs]
  by_cases hij : i = j
  · subst hij
    have : inB is i = false := by
      cases hb : inB is i with
      | false => rfl
      | true => exact absurd (inB_iff.1 hb) (List.nodup_cons.1 hn).1
    simp [h, this]
  · rw [if_neg hij]
    by_cases hj : j < n
    · rw [if_pos hj, if_pos hj, inB_cons]
      have : Nat.beq i j = false := by
        cases hb : Nat.beq i j with
        | false => rfl
        | true => exact absurd (Nat.eq_of_beq_eq_true hb) hij
      rw [this, Bool.false_or]
    · rw [if_neg hj, if_neg hj]
theorem ready_all {ops : Array Oper} : Region.ready .any ops (lst ops.size []) = [] := by
  unfold Region.ready
  rw [List.filter_eq_nil_iff]
  intro i hi
  have : i < ops.size := List.mem_range.1 hi
  simp [lst, Array.getD, this, inB]
theorem gath_step {ops : Array Oper} {i : Nat} {is : List Nat} {o : Oper} {rest : List Oper} (h : Gath ops.toList (i :: is) (o :: rest)) : ops[i]? = some o ∧ i < ops.size ∧ Gath ops.toList is rest := by
  cases h with
  | cons hi h =>
    have h1 : ops[i]? = some o := by simpa using hi
    exact ⟨h1, (Array.getElem?_eq_some_iff.1 h1).1, h⟩
/-- The mode behind an operation. -/
inductive NX : Md → Md → Prop where
  | l : NX .l .l
  | q : NX .q .q
  | x (s : Nat) (Kp : List Ck) (i : Nat) (is : List Nat) : NX (.x s Kp (i :: is)) (.x s Kp is)
  | y (s : Nat) (Kp : List Ck) (i : Nat) (is : List Nat) : NX (.y s Kp i is) (.x s Kp is)

/-- A step that needs no thought: what stands in its place. -/
class St (p : Prop) (q : outParam Prop) : Prop where
  st : q → p
theorem st {p q : Prop} [h : St p q] (hq : q) : p := h.st hq
/-- A test, and what is known where it holds and where it fails. -/
class BP (b : Bool) (p n : outParam Prop) : Prop where
  t : b = true → p
  f : b = false → n
instance (priority := low) (b : Bool) : BP b (b = true) (b = false) := ⟨id, id⟩
instance : BP false False True := ⟨fun h => (by cases h), fun _ => trivial⟩
instance : BP true True False := ⟨fun _ => trivial, fun h => (by cases h)⟩
instance (p : Prop) [Decidable p] : BP (decide p) p (¬p) := ⟨of_decide_eq_true, of_decide_eq_false⟩
instance (b : Bool) (p n : Prop) [h : BP b p n] : BP (!b) n p := ⟨fun e => h.f (by simpa using e), fun e => h.t (by simpa using e)⟩
instance (a b : Bool) (p n p' n' : Prop) [h : BP a p n] [h' : BP b p' n'] : BP (a && b) (p ∧ p') (n ∨ n') := ⟨fun e => by
  simp only [Bool.and_eq_true] at e; exact ⟨h.t e.1, h'.t e.2⟩, fun e => by
  cases ha : a with
  | false => exact Or.inl (h.f ha)
  | true => rw [ha] at e; exact Or.inr (h'.f (by simpa using e))⟩
instance (a b : Bool) (p n p' n' : Prop) [h : BP a p n] [h' : BP b p' n'] : BP (a || b) (p ∨ p') (n ∧ n') := ⟨fun e => by
  simp only [Bool.or_eq_true] at e; exact e.imp h.t h'.t, fun e => by
  simp only [Bool.or_eq_false_iff] at e; exact ⟨h.f e.1, h'.f e.2⟩⟩
/-- The datum that an element's type is read as; the datum of these cells. -/
class ElT (P : Program) (e : TypeId) (α : outParam Type) : Prop where
  el : True
class MkI (α : Type) [Flat α] (cs : List Value) (a : outParam α) : Prop where
  eq : Flat.f a = cs
theorem Pick.skip {L K K' : List Ck} {k : Ck} (h : Pick K k K') : Pick (L ++ K) k (L ++ K') := by
  induction L with
  | nil => exact h
  | cons x L ih => exact .there x k _ _ ih
theorem Pick.midG : ∀ (s t : List Ck) (k : Ck), Pick (s ++ k :: t) k (s ++ t)
  | [], t, k => .here k t
  | x :: s, t, k => .there x k _ _ (Pick.midG s t k)
theorem KSub.ofPermG : ∀ (K' K K2 : List Ck), K.Perm (K' ++ K2) → KSub K K'
  | [], K, _, _ => .nil K
  | k :: K1, K, K2, h => by
    obtain ⟨s, t, rfl⟩ := List.append_of_mem (h.mem_iff.2 (List.mem_append_left K2 (List.mem_cons_self (a := k) (l := K1))))
    have h2 : (s ++ t).Perm (K1 ++ K2) := List.Perm.cons_inv ((List.perm_middle).symm.trans h)
    exact .pick (Pick.midG s t k) (KSub.ofPermG K1 _ K2 h2)
/-- The second list is the first without some of it, lists of chunks taken whole. -/
inductive SubL : List Ck → List Ck → Prop where
  | refl (K : List Ck) : SubL K K
  | nil (K : List Ck) : SubL K []
  | keep {k : Ck} {K L : List Ck} (h : SubL K L) : SubL (k :: K) (k :: L)
  | keepA {M K L : List Ck} (h : SubL K L) : SubL (M ++ K) (M ++ L)
  | asc {K A B C : List Ck} (h : SubL K (A ++ (B ++ C))) : SubL K ((A ++ B) ++ C)
  | ascS {K A B C : List Ck} (h : SubL (A ++ (B ++ C)) K) : SubL ((A ++ B) ++ C) K
  | nilS {K L : List Ck} (h : SubL K L) : SubL ([] ++ K) L
  | nilT {K L : List Ck} (h : SubL K L) : SubL K ([] ++ L)
  | consA {k : Ck} {K A B : List Ck} (h : SubL K (k :: (A ++ B))) : SubL K ((k :: A) ++ B)
  | consS {k : Ck} {K A B : List Ck} (h : SubL (k :: (A ++ B)) K) : SubL ((k :: A) ++ B) K
  | drop {k : Ck} {K L : List Ck} (h : SubL K L) : SubL (k :: K) L
  | dropA {M K L : List Ck} (h : SubL K L) : SubL (M ++ K) L
theorem SubL.split {K L : List Ck} (h : SubL K L) : ∃ M, K.Perm (L ++ M) := by
  induction h with
  | refl K => exact ⟨[], by simp⟩
  | nil K => exact ⟨K, by simp⟩
  | keep _ ih => obtain ⟨M, h⟩ := ih; exact ⟨M, h.cons _⟩
  | keepA _ ih => obtain ⟨M, h⟩ := ih; exact ⟨M, by rw [List.append_assoc]; exact h.append_left _⟩
  | asc _ ih => obtain ⟨M, h⟩ := ih; exact ⟨M, by simpa [List.append_assoc] using h⟩
  | ascS _ ih => obtain ⟨M, h⟩ := ih; exact ⟨M, by simpa [List.append_assoc] using h⟩
  | nilS _ ih => exact ih
  | nilT _ ih => exact ih
  | consA _ ih => exact ih
  | consS _ ih => exact ih
  | @drop k K L _ ih => obtain ⟨M, h⟩ := ih; exact ⟨k :: M, (h.cons k).trans List.perm_middle.symm⟩
  | @dropA M' K L _ ih =>
    obtain ⟨M, h⟩ := ih
    exact ⟨M ++ M', List.perm_append_comm.trans (by rw [← List.append_assoc]; exact h.append_right M')⟩
theorem SubL.ksub {K L : List Ck} (h : SubL K L) : KSub K L := by
  obtain ⟨M, hp⟩ := h.split
  exact KSub.ofPermG L K M hp
theorem subl {K L : List Ck} (h : SubL K L := by (repeat (first | with_reducible exact SubL.refl _ | with_reducible exact SubL.nil _ | with_reducible apply SubL.asc | with_reducible apply SubL.ascS | with_reducible apply SubL.nilS | with_reducible apply SubL.nilT | with_reducible apply SubL.consA | with_reducible apply SubL.consS | with_reducible apply SubL.keepA | with_reducible apply SubL.keep | with_reducible apply SubL.drop | with_reducible apply SubL.dropA)); first | done | fail) : SubL K L := h
theorem pk {K K' : List Ck} {k : Ck} (h : Pick K k K' := by (repeat (first | exact Pick.here _ _ | apply Pick.there | apply Pick.skip)); first | done | fail) : Pick K k K' := h
theorem mm {K : List Ck} {k : Ck} (h : k ∈ K := by (repeat (first | exact List.Mem.head _ | apply List.Mem.tail | apply List.mem_append_right)); first | done | fail) : k ∈ K := h
/-- F0 is F without the slots ks. -/
inductive Strip (ks : List Nat) : List (Nat × En) → List (Nat × En) → Prop where
  | nil : Strip ks [] []
  | drop {n : Nat} {e : En} {F F0 : List (Nat × En)} (hk : inB ks n = true) (h : Strip ks F F0) : Strip ks ((n, e) :: F) F0
  | keep {n : Nat} {e : En} {F F0 : List (Nat × En)} (hk : inB ks n = false) (h : Strip ks F F0) : Strip ks ((n, e) :: F) ((n, e) :: F0)
theorem Strip.sub {ks : List Nat} {F F0 : List (Nat × En)} (h : Strip ks F F0) : FSub F F0 := by
  induction h with
  | nil => exact FSub.refl _
  | @drop n e F F0 hk h ih =>
    intro m e' hm
    have h2 : ∀ {F F0 : List (Nat × En)}, Strip ks F F0 → look F0 n = none := by
      intro F F0 h
      induction h with
      | nil => rfl
      | drop _ _ ih => exact ih
      | @keep n' e F F0 hk' _ ih =>
        simp only [look]
        cases hb : Nat.beq n n' with
        | true =>
          have := Nat.eq_of_beq_eq_true hb
          subst this
          rw [hk] at hk'
          cases hk'
        | false => exact ih
    simp only [look]
    cases hb : Nat.beq m n with
    | true =>
      have := Nat.eq_of_beq_eq_true hb
      subst this
      rw [h2 h] at hm
      cases hm
    | false => exact ih m e' hm
  | @keep n e F F0 hk h ih =>
    intro m e' hm
    simp only [look] at hm ⊢
    cases hb : Nat.beq m n with
    | true => rw [hb] at hm; exact hm
    | false => rw [hb] at hm; exact ih m e' hm
theorem stp {ks : List Nat} {F F0 : List (Nat × En)} (h : Strip ks F F0 := by (repeat (first | exact Strip.nil | (apply Strip.drop; rfl) | (apply Strip.keep; rfl))); first | done | fail) : Strip ks F F0 := h
theorem FSub.app {F F0 : List (Nat × En)} : ∀ {C : List (Nat × En)}, (∀ n e, look C n = some e → look F n = some e) → FSub F F0 → FSub F (C ++ F0)
  | [], _, h => h
  | (n, e) :: C, hC, h => fun m e' hm => by
    simp only [List.cons_append, look] at hm
    cases hb : Nat.beq m n with
    | true =>
      rw [hb] at hm
      exact hC m e' (by simp only [look, hb]; exact hm)
    | false =>
      rw [hb] at hm
      have hC' : ∀ k e, look C k = some e → (Nat.beq k n = false) → look F k = some e := fun k e hk hkn => hC k e (by simp only [look, hkn]; exact hk)
      have key : ∀ {C : List (Nat × En)}, look (C ++ F0) m = some e' → look C m = some e' ∨ look F0 m = some e' := by
        intro C
        induction C with
        | nil => exact Or.inr
        | cons x C ih =>
          intro h
          simp only [List.cons_append, look] at h ⊢
          cases hb2 : Nat.beq m x.1 with
          | true => rw [hb2] at h; exact Or.inl h
          | false => rw [hb2] at h; exact ih h
      rcases key hm with h1 | h1
      · exact hC' m e' h1 hb
      · exact h m e' h1
/-- K is L and K'. -/
inductive Spl : List Ck → List Ck → List Ck → Prop where
  | nil (K : List Ck) : Spl K [] K
  | cons {K K1 K' L : List Ck} {k : Ck} (hp : Pick K k K1) (h : Spl K1 L K') : Spl K (k :: L) K'
theorem Spl.ownF {α : Type} [Flat α] {K K1 K' L : List Ck} {e : TypeId} {v : Value} {xs xs' : List α} (hp : Pick K (E.ownF e v xs) K1) (he : xs = xs') (h : Spl K1 L K') : Spl K (E.ownF e v xs' :: L) K' := by subst he; exact .cons hp h
theorem Spl.box {K K1 K' L : List Ck} {g : Nat} {t : TypeId} {cs cs' : List Value} (hp : Pick K (.box g t cs) K1) (he : cs = cs') (h : Spl K1 L K') : Spl K (.box g t cs' :: L) K' := by subst he; exact .cons hp h
theorem Spl.perm {K L K' : List Ck} (h : Spl K L K') : K.Perm (L ++ K') := by
  induction h with
  | nil K => exact List.Perm.refl _
  | cons hp _ ih => exact hp.perm.trans (List.Perm.cons _ ih)
class NeB (i j : Nat) : Prop where
  ne : Nat.beq i j = false
class Mx (P : Program) : Prop where
  mx : P.follows .mixedOrders = true

section
variable {P : Program} {N : Nat} {w0 : World} {K K' Kp : List Ck} {F F' : List (Nat × En)} {c : Bool} {Q : Exit → Act → World → Prop} {ops : Array Oper} {rest : List Oper} {d : Nat} {dd : Option Tmp} {ty : TypeId} {pos : String} {af : Array Edge} {gd : Option (Nat × Bool)}
variable {x y : Operand} {t t' : TypeId} {u v : Value} {o : Oper} {Kn : Act → World → Prop} {m m' : Md} {e : En} {gk : Bool}

/-! ### Steps of code -/
instance {x y : Code} : St (HC P N w0 (.seq x y) Q F K) (HC P N w0 x (Exit.then (y.wp P Q) Q) F K) := ⟨hc_seq⟩
instance {i : Nat} {l : List Oper} : St (HC P N w0 (.region i l.toArray false) Q F K) (HG P N w0 l.toArray Q .l l F K) := ⟨hc_region⟩
instance {i : Nat} {x : Code} : St (HC P N w0 (.block i x) Q F K) (HC P N w0 x (Exit.inBlock i Q) F K) := ⟨hc_block⟩
instance : St (HC P N w0 .ret Q F K) (At N w0 (Q .ret) F K) := ⟨hc_ret⟩
instance : St (HC P N w0 .skip Q F K) (At N w0 (Q .normal) F K) := ⟨hc_skip⟩
instance {i : Nat} : St (HC P N w0 (.exit i) Q F K) (At N w0 (Q (.exit i)) F K) := ⟨hc_exit⟩
instance : St (HG P N w0 ops Q m [] F K) (At N w0 (Q .normal) F K) := ⟨fun h => by cases m with
  | l => exact hl_nil h
  | q => exact hq_nil h
  | x s Kp is => exact fun hg _ => by cases hg; exact hx_done (by simp [ready_all]) h
  | y s Kp i is => exact fun hg _ => by cases hg⟩
instance {y : Code} : St (At N w0 (Exit.then (y.wp P Q) Q .normal) F K) (HC P N w0 y Q F K) := ⟨at_then⟩
instance {R : Act → World → Prop} : St (At N w0 (Exit.then R Q .ret) F K) (At N w0 (Q .ret) F K) := ⟨at_then_ret⟩
instance {R : Act → World → Prop} {i : Nat} : St (At N w0 (Exit.then R Q (.exit i)) F K) (At N w0 (Q (.exit i)) F K) := ⟨at_then_exit⟩
instance {i : Nat} : St (At N w0 (Exit.inBlock i Q .normal) F K) (At N w0 (Q .normal) F K) := ⟨at_block⟩
instance {i : Nat} : St (At N w0 (Exit.inBlock i Q .ret) F K) (At N w0 (Q .ret) F K) := ⟨at_block_ret⟩
instance {i : Nat} : St (At N w0 (Exit.inBlock i Q (.exit i)) F K) (At N w0 (Q .normal) F K) := ⟨at_block_exit⟩
instance {fn : Func} {R : Ending → World → Prop} : St (At N w0 (bodyPost P fn R .normal) F K) (At N w0 (bodyPost P fn R .ret) F K) := ⟨at_end⟩
/-- A region of quiet operations that draws its order. -/
theorem dq [M : Mx P] {i : Nat} {l : List Oper} (h : HG P N w0 l.toArray Q .q l F K) (hB : Region.lexB .any l.toArray = true := by decide +kernel) : HC P N w0 (.region i l.toArray true) Q F K := hc_quiet M.mx hB h
/-- .. some of which make or write memory: looked at in the order 'is'. -/
theorem dx [M : Mx P] {i : Nat} {l l' : List Oper} (is : List Nat) (h : HG P N w0 l.toArray Q (.x (l.length - 1) K is) l' F K) (hg : Gath l is l' := by (repeat (first | exact Gath.nil | (apply Gath.cons; rfl))); first | done | fail) (hn : is.Nodup := by decide) (hl : is.length = l.length := by rfl) (hb : (List.range l.length).all (fun j => inB is j) = true := by rfl) : HC P N w0 (.region i l.toArray true) Q F K := by
  refine hx_start (l.length - 1) K M.mx ?_
  have h' := h (by simpa using hg) hn
  have hl' : l'.length = l.length := by
    rw [← hl]
    clear h h' hn hl hb
    induction hg with
    | nil => rfl
    | cons _ _ ih => simp [ih]
  have hall : ∀ j, j < l.length → inB is j = true := fun j hj => List.all_eq_true.1 hb j (List.mem_range.2 hj)
  have e : lst l.toArray.size is = Array.replicate l.length false := by
    apply Array.ext
    · simp [lst]
    · intro j h1 h2
      have hj : j < l.length := by simpa [lst] using h1
      simp [lst, hall j hj]
  rw [e, hl'] at h'
  exact h'
/-- .. the chunks K stay all the while. -/
theorem dxa [M : Mx P] {i : Nat} {l l' : List Oper} (is : List Nat) (h : HG P N w0 l.toArray Q (.x l.length K is) l' F K) (hg : Gath l is l' := by (repeat (first | exact Gath.nil | (apply Gath.cons; rfl))); first | done | fail) (hn : is.Nodup := by decide) (hl : is.length = l.length := by rfl) (hb : (List.range l.length).all (fun j => inB is j) = true := by rfl) : HC P N w0 (.region i l.toArray true) Q F K := by
  refine hx_start l.length K M.mx ?_
  have h' := h (by simpa using hg) hn
  have hl' : l'.length = l.length := by
    rw [← hl]
    clear h h' hn hl hb
    induction hg with
    | nil => rfl
    | cons _ _ ih => simp [ih]
  have hall : ∀ j, j < l.length → inB is j = true := fun j hj => List.all_eq_true.1 hb j (List.mem_range.2 hj)
  have e : lst l.toArray.size is = Array.replicate l.length false := by
    apply Array.ext
    · simp [lst]
    · intro j h1 h2
      have hj : j < l.length := by simpa [lst] using h1
      simp [lst, hall j hj]
  rw [e, hl'] at h'
  exact h'
/-- .. the box g is turned, all other chunks stay. -/
theorem dxp [M : Mx P] (g : Nat) {t0 : TypeId} {cs : List Value} {i : Nat} {l l' : List Oper} (is : List Nat) (h : HG P N w0 l.toArray Q (.x (l.length - 1) Kp is) l' F K) (hp : Pick K (.box g t0 cs) Kp := by exact pk) (hg : Gath l is l' := by (repeat (first | exact Gath.nil | (apply Gath.cons; rfl))); first | done | fail) (hn : is.Nodup := by decide) (hl : is.length = l.length := by rfl) (hb : (List.range l.length).all (fun j => inB is j) = true := by rfl) : HC P N w0 (.region i l.toArray true) Q F K := by
  refine hx_start (l.length - 1) Kp M.mx ?_
  have h' := h (by simpa using hg) hn
  have hl' : l'.length = l.length := by
    rw [← hl]
    clear h h' hn hl hb
    induction hg with
    | nil => rfl
    | cons _ _ ih => simp [ih]
  have hall : ∀ j, j < l.length → inB is j = true := fun j hj => List.all_eq_true.1 hb j (List.mem_range.2 hj)
  have e : lst l.toArray.size is = Array.replicate l.length false := by
    apply Array.ext
    · simp [lst]
    · intro j h1 h2
      have hj : j < l.length := by simpa [lst] using h1
      simp [lst, hall j hj]
  rw [e, hl'] at h'
  exact h'
/-- .. the chunks Kp alone are looked at. -/
theorem dxk [M : Mx P] (Kp : List Ck) (s : Nat) {i : Nat} {l l' : List Oper} (is : List Nat) (h : HG P N w0 l.toArray Q (.x s Kp is) l' F K) (hg : Gath l is l' := by (repeat (first | exact Gath.nil | (apply Gath.cons; rfl))); first | done | fail) (hn : is.Nodup := by decide) (hl : is.length = l.length := by rfl) (hb : (List.range l.length).all (fun j => inB is j) = true := by rfl) : HC P N w0 (.region i l.toArray true) Q F K := by
  refine hx_start s Kp M.mx ?_
  have h' := h (by simpa using hg) hn
  have hl' : l'.length = l.length := by
    rw [← hl]
    clear h h' hn hl hb
    induction hg with
    | nil => rfl
    | cons _ _ ih => simp [ih]
  have hall : ∀ j, j < l.length → inB is j = true := fun j hj => List.all_eq_true.1 hb j (List.mem_range.2 hj)
  have e : lst l.toArray.size is = Array.replicate l.length false := by
    apply Array.ext
    · simp [lst]
    · intro j h1 h2
      have hj : j < l.length := by simpa [lst] using h1
      simp [lst, hall j hj]
  rw [e, hl'] at h'
  exact h'
/-- A test that is decided. -/
theorem ct {q : Operand} {a b : Code} {z : Bool} {p n : Prop} (ht : HC P N w0 a Q F K) (hq : Opd N F true q (.bool z) := by exact Opd.pl rfl) (B : BP z p n := by exact inferInstance) (hn : n → False := by intro hn; first | exact hn | omega | exact hn (by assumption) | exact absurd hn (by assumption) | exact Bool.noConfusion (Eq.trans (Eq.symm hn) (by assumption))) : HC P N w0 (.cond q a b) Q F K := hc_cond hq (fun _ => ht) (fun h => (hn (B.f h)).elim)
theorem cf {q : Operand} {a b : Code} {z : Bool} {p n : Prop} (hf : HC P N w0 b Q F K) (hq : Opd N F true q (.bool z) := by exact Opd.pl rfl) (B : BP z p n := by exact inferInstance) (hn : p → False := by intro hn; first | exact hn | omega | exact hn (by assumption) | exact absurd hn (by assumption) | exact Bool.noConfusion (Eq.trans (Eq.symm hn) (by assumption))) : HC P N w0 (.cond q a b) Q F K := hc_cond hq (fun h => (hn (B.t h)).elim) (fun _ => hf)
theorem cs {q : Operand} {a b : Code} {z : Bool} {p n : Prop} (ht : p → HC P N w0 a Q F K) (hf : n → HC P N w0 b Q F K) (hq : Opd N F true q (.bool z) := by exact Opd.pl rfl) (B : BP z p n := by exact inferInstance) : HC P N w0 (.cond q a b) Q F K := hc_cond hq (fun h => ht (B.t h)) (fun h => hf (B.f h))

/-! ### One quiet operation -/
/-- Is the operation under a guard (gk), and what does it hold? -/
inductive GE (N : Nat) (F : List (Nat × En)) (ops : Array Oper) : Option (Nat × Bool) → Bool → Bool → Prop where
  | n : GE N F ops none true false
  | s {j : Nat} {want c : Bool} (h : GV N F ops j want c) : GE N F ops (some (j, want)) c true
/-- How its value stands in the frame. -/
inductive IE : Bool → Bool → Value → En → Prop where
  | n (c : Bool) (v : Value) : IE false c v (.pl v)
  | s (c : Bool) (v : Value) : IE true c v (.gd c v)
/-- A quiet operation may come next (Kq: the chunks under which it is looked at). -/
inductive KQ (ops : Array Oper) (K : List Ck) : Md → List Ck → Prop where
  | l : KQ ops K .l K
  | q : KQ ops K .q K
  | x {s i : Nat} {Kp : List Ck} {is : List Nat} (hs : (Region.noSelect ops && Region.free .any ops (lst ops.size (i :: is)) i && (Region.ready .any ops (lst ops.size (i :: is))).contains i && waits ops s i && !(Nat.beq i s) && !((lst ops.size (i :: is)).getD s false)) = true) (hK : KSub K Kp) : KQ ops K (.x s Kp (i :: is)) Kp
/-- A quiet operation that comes up alone, or whose order does not count. -/
inductive KC (ops : Array Oper) (K : List Ck) : Md → Prop where
  | l : KC ops K .l
  | q : KC ops K .q
  | x {s i : Nat} {Kp : List Ck} {is : List Nat} (hs : Region.ready .any ops (lst ops.size (i :: is)) = [i]) (hK : (lst ops.size is).getD s false = true ∨ KSub K Kp) : KC ops K (.x s Kp (i :: is))
  | y {s i : Nat} {Kp : List Ck} {is : List Nat} (hK : (lst ops.size is).getD s false = true ∨ KSub K Kp) : KC ops K (.y s Kp i is)
/-- An operation that makes or writes memory comes up alone; the chunks behind it. -/
inductive KA (ops : Array Oper) : Md → Prop where
  | l : KA ops .l
  | x {s i : Nat} {Kp : List Ck} {is : List Nat} (hs : Region.ready .any ops (lst ops.size (i :: is)) = [i]) : KA ops (.x s Kp (i :: is))
  | y {s i : Nat} {Kp : List Ck} {is : List Nat} : KA ops (.y s Kp i is)
inductive KB (ops : Array Oper) : Md → List Ck → Prop where
  | l {K : List Ck} : KB ops .l K
  | x {s i : Nat} {Kp K : List Ck} {is : List Nat} (hK : (lst ops.size is).getD s false = true ∨ KSub K Kp) : KB ops (.x s Kp (i :: is)) K
  | y {s i : Nat} {Kp K : List Ck} {is : List Nat} (hK : (lst ops.size is).getD s false = true ∨ KSub K Kp) : KB ops (.y s Kp i is) K
/-- The rest, behind an operation that made or wrote memory. -/
theorem hgo {o : Oper} {ι : Sort _} {Ki : ι → List Ck} {Fi : ι → List (Nat × En)} (hA : KA ops m) (hB : ∀ z, KB ops m (Ki z)) (hX : NX m m') (hgd : o.guard = none) (hr : ∀ z, HG P N w0 ops Q m' rest (Fi z) (Ki z)) (h : ∀ Q' Kn, (∀ z, At N w0 Kn (Fi z) (Ki z)) → HO P N w0 Q' o Kn F K) : HG P N w0 ops Q m (o :: rest) F K := by
  cases hA with
  | l => cases hX; exact hl_o hgd (h Q _ hr)
  | @x s i Kp is hs =>
    cases hX
    intro hG hnd
    obtain ⟨h1, h2, h3⟩ := gath_step hG
    refine hx_all _ hs rfl (ox_cons h1 hgd (h _ _ fun z => ?_) ox_nil)
    rw [lst_set h2 hnd]
    have hz := hB z
    cases hz with
    | x hK => exact at_x hK (hr z h3 (List.nodup_cons.1 hnd).2)
  | @y s i Kp is =>
    cases hX
    intro hG hnd
    obtain ⟨h1, h2, h3⟩ := gath_step hG
    refine ox_cons h1 hgd (h _ _ fun z => ?_) ox_nil
    rw [lst_set h2 hnd]
    have hz := hB z
    cases hz with
    | y hK => exact at_x hK (hr z h3 (List.nodup_cons.1 hnd).2)
theorem hgv {o : Oper} {Kq : List Ck} (hd : o.dst = some d) (hN : d < N) (hG : GE N F ops o.guard c gk) (hQ : KQ ops K m Kq) (hX : NX m m') (hy : YV P N w0 Kq F c o v) (he : IE gk c v e) (hr : HG P N w0 ops Q m' rest ((d, e) :: F) K) : HG P N w0 ops Q m (o :: rest) F K := by
  generalize hgd : o.guard = g at hG
  cases hQ with
  | l => cases hX; cases hG with
    | n => cases he with | n => exact hl_q hgd hd hN hy.y hr
    | s h => cases he with | s => exact hl_g hgd h hd hN hy.y hr
  | q => cases hX; cases hG with
    | n => cases he with | n => exact hq_q hgd hd hN hy.y hr
    | s h => cases he with | s => exact hq_g hgd h hd hN hy.y hr
  | @x s i Kp is hs hK =>
    cases hX
    intro hGa hnd
    obtain ⟨h1, h2, h3⟩ := gath_step hGa
    have hr' := hr h3 (List.nodup_cons.1 hnd).2
    rw [← lst_set h2 hnd] at hr'
    cases hG with
      | n => cases he with | n => exact hx_take _ h1 hs hgd hd hN hy hK hr'
      | s h => cases he with | s => exact hx_takeg _ h1 hs hgd h hd hN hy hK hr'
theorem ho_y {o : Oper} (hd : o.dst = some d) (hN : d < N) (hy : Y P N w0 K F true o v) (hr : At N w0 Kn ((d, .pl v) :: F) K) : HO P N w0 Q o Kn F K := fun a w ha hw => by
  refine Oper.wp_of_quiet (C := KOk w0 K) (K := fun a' => ∀ w', KOk w0 K w' → Kn a' w') hw (fun a w' hw' h => h w' hw') ⟨v, fun w hw => hy a w ha rfl hw, fun w' hw' => ?_⟩
  rw [hd]
  exact hr _ _ (ha.put d (.pl v) v hN rfl) hw'
theorem ox_consg {s fuel : Nat} {listed : Array Bool} {Kp : List Ck} {o : Oper} {i j : Nat} {want : Bool} (hi : ops[i]? = some o) (hgd : o.guard = some (j, want)) (hG : GV N F ops j want c) (hd : o.dst = some d) (hN : d < N) (hy : Y P N w0 K F c o v) (hr : At N w0 (KnX P w0 ops Q s Kp fuel (listed.setIfInBounds i true)) ((d, .gd c v) :: F) K) : OneX P N w0 ops Q s Kp fuel listed F K [i] := fun k hk => by
  obtain rfl : k = i := by simpa using hk
  intro a w ha hw
  have hwant : Region.wanted o (yielded ops a.tmps) = c := by simp only [Region.wanted, hgd]; exact hG a ha
  unfold wpOp
  simp only [hi]
  rw [hwant]
  cases c with
  | true =>
    rw [if_pos rfl]
    refine .inl (Oper.wp_of_quiet (C := KOk w0 K) (K := fun a' => ∀ w', KOk w0 K w' → KnX P w0 ops Q s Kp fuel (listed.setIfInBounds k true) a' w') hw (fun a w' hw' h => h w' hw') ⟨v, fun w hw => hy a w ha rfl hw, fun w' hw' => ?_⟩)
    rw [hd]
    exact hr _ _ (ha.put d (.gd true v) v hN rfl) hw'
  | false =>
    rw [if_neg (by simp), hd]
    exact hr _ _ (ha.put d (.gd false v) undef hN rfl) hw
theorem hg {o : Oper} (hd : o.dst = some d) (hN : d < N) (hG : GE N F ops o.guard c gk) (hQ : KC ops K m) (hX : NX m m') (hy : Y P N w0 K F c o v) (he : IE gk c v e) (hr : HG P N w0 ops Q m' rest ((d, e) :: F) K) : HG P N w0 ops Q m (o :: rest) F K := by
  generalize hgd : o.guard = g at hG
  cases hQ with
  | l => cases hX; cases hG with
    | n => cases he with | n => exact hl_q hgd hd hN hy hr
    | s h => cases he with | s => exact hl_g hgd h hd hN hy hr
  | q => cases hX; cases hG with
    | n => cases he with | n => exact hq_q hgd hd hN hy hr
    | s h => cases he with | s => exact hq_g hgd h hd hN hy hr
  | @x s i Kp is hs hK =>
    cases hX
    intro hGa hnd
    obtain ⟨h1, h2, h3⟩ := gath_step hGa
    have hr' := hr h3 (List.nodup_cons.1 hnd).2
    cases hG with
      | n => cases he with
        | n =>
          refine hx_all _ hs rfl (ox_cons h1 hgd (ho_y hd hN hy ?_) ox_nil)
          rw [lst_set h2 hnd]
          exact at_x hK hr'
      | s h => cases he with
        | s =>
          refine hx_all _ hs rfl (ox_consg h1 hgd h hd hN hy ?_)
          rw [lst_set h2 hnd]
          exact at_x hK hr'
  | @y s i Kp is hK =>
    cases hX
    intro hGa hnd
    obtain ⟨h1, h2, h3⟩ := gath_step hGa
    have hr' := hr h3 (List.nodup_cons.1 hnd).2
    cases hG with
      | n => cases he with
        | n =>
          refine ox_cons h1 hgd (ho_y hd hN hy ?_) ox_nil
          rw [lst_set h2 hnd]
          exact at_x hK hr'
      | s h => cases he with
        | s =>
          refine ox_consg h1 hgd h hd hN hy ?_
          rw [lst_set h2 hnd]
          exact at_x hK hr'
/-- One of the operations is taken out. -/
inductive Ex : Nat → List Nat → List Oper → Oper → List Nat → List Oper → Prop where
  | here (j : Nat) (is : List Nat) (o : Oper) (l : List Oper) : Ex j (j :: is) (o :: l) o is l
  | there {j k : Nat} {is is' : List Nat} {o p : Oper} {l l' : List Oper} (h : Ex j is l o is' l') : Ex j (k :: is) (p :: l) o (k :: is') (p :: l')
theorem Ex.gath {ops : List Oper} {j : Nat} {is is' : List Nat} {o : Oper} {l l' : List Oper} (h : Ex j is l o is' l') (hG : Gath ops is l) : Gath ops (j :: is') (o :: l') := by
  induction h with
  | here is o l => exact hG
  | there _ ih =>
    cases hG with
    | cons hi hG =>
      cases ih hG with
      | cons hj hG' => exact .cons hj (.cons hi hG')
theorem Ex.perm {j : Nat} {is is' : List Nat} {o : Oper} {l l' : List Oper} (h : Ex j is l o is' l') : is.Perm (j :: is') ∧ l.length = l'.length + 1 := by
  induction h with
  | here is o l => exact ⟨List.Perm.refl _, rfl⟩
  | there _ ih => exact ⟨(ih.1.cons _).trans (List.Perm.swap _ _ _), by simp only [List.length_cons]; omega⟩
theorem lst_perm {n : Nat} {is js : List Nat} (h : is.Perm js) : lst n is = lst n js := by
  unfold lst
  congr 1
  funext j
  have : inB is j = inB js j := by
    cases hb : inB is j with
    | true => exact (inB_iff.2 (h.mem_iff.1 (inB_iff.1 hb))).symm
    | false =>
      cases hc : inB js j with
      | true => have := inB_iff.2 (h.mem_iff.2 (inB_iff.1 hc)); rw [hb] at this; cases this
      | false => rfl
  rw [this]
theorem br_one {s j : Nat} {is is' : List Nat} {l l' : List Oper} {o : Oper} (he : Ex j is l o is' l') (h : HG P N w0 ops Q (.y s Kp j is') (o :: l') F K) (hG : Gath ops.toList is l) (hnd : is.Nodup) : OneX P N w0 ops Q s Kp l'.length (lst ops.size is) F K [j] := by
  have := h (he.gath hG) ((he.perm.1.nodup_iff).1 hnd)
  rw [lst_perm he.perm.1]
  simpa using this
/-- Two may come up. -/
theorem br2 {s i j : Nat} {is is1 is2 : List Nat} {l l1 l2 : List Oper} {o1 o2 : Oper} (a : HG P N w0 ops Q (.y s Kp i is1) (o1 :: l1) F K) (b : HG P N w0 ops Q (.y s Kp j is2) (o2 :: l2) F K) (hs : Region.ready .any ops (lst ops.size is) = [i, j] := by decide +kernel) (h1 : Ex i is l o1 is1 l1 := by (repeat (first | exact Ex.here _ _ _ _ | apply Ex.there)); first | done | fail) (h2 : Ex j is l o2 is2 l2 := by (repeat (first | exact Ex.here _ _ _ _ | apply Ex.there)); first | done | fail) : HG P N w0 ops Q (.x s Kp is) l F K := fun hG hnd => by
  have e1 := h1.perm.2
  have e2 := h2.perm.2
  have hl : l.length = l1.length + 1 := e1
  rw [hl]
  refine hx_all _ hs rfl (fun k hk => ?_)
  rcases List.mem_cons.1 hk with rfl | hk
  · exact br_one h1 a hG hnd k (List.mem_singleton.2 rfl)
  · have : l2.length = l1.length := by omega
    rw [← this]
    exact br_one h2 b hG hnd k hk
/-- An operation under a guard that holds; one under a guard that fails. -/
theorem ug {j : Nat} {want : Bool} {op : Op} (hr : HG P N w0 ops Q .l (⟨some d, op, ty, pos, af, none⟩ :: rest) F K) (hG : GV N F ops j want c := by first | exact GV.pt rfl rfl | exact GV.pf rfl rfl | exact GV.gt rfl rfl | exact GV.gf rfl rfl) (hc : c = true := by first | rfl | exact decide_eq_true (by first | assumption | omega) | (simp only [Bool.and_eq_true, Bool.or_eq_true, Bool.not_eq_true', decide_eq_true_eq, decide_eq_false_iff_not]; omega)) : HG P N w0 ops Q .l (⟨some d, op, ty, pos, af, some (j, want)⟩ :: rest) F K := fun a w ha hw => by
  have h := hr a w ha hw
  unfold wpList at h ⊢
  have hw1 : Region.wanted ⟨some d, op, ty, pos, af, some (j, want)⟩ (yielded ops a.tmps) = true := by simp only [Region.wanted]; rw [hG a ha, hc]
  rw [if_pos (by simp [Region.wanted])] at h
  rw [hw1, if_pos rfl]
  exact h
theorem sk {j : Nat} {want : Bool} {op : Op} (hr : HG P N w0 ops Q .l rest ((d, .gd c (.bool false)) :: F) K) (hG : GV N F ops j want c := by first | exact GV.pt rfl rfl | exact GV.pf rfl rfl | exact GV.gt rfl rfl | exact GV.gf rfl rfl) (hc : c = false := by first | rfl | exact decide_eq_false (by first | assumption | omega) | (simp only [Bool.and_eq_false_iff, Bool.or_eq_false_iff, Bool.not_eq_false', decide_eq_true_eq, decide_eq_false_iff_not]; omega)) (hN : d < N := by decide) : HG P N w0 ops Q .l (⟨some d, op, ty, pos, af, some (j, want)⟩ :: rest) F K := fun a w ha hw => by
  unfold wpList
  have hw1 : Region.wanted ⟨some d, op, ty, pos, af, some (j, want)⟩ (yielded ops a.tmps) = false := by simp only [Region.wanted]; rw [hG a ha, hc]
  rw [hw1, if_neg (by simp)]
  refine hr _ w (ha.put d (.gd c (.bool false)) undef hN ?_) hw
  rw [hc]; rfl
theorem q {Kq : List Ck} (hr : HG P N w0 ops Q m' rest ((d, e) :: F) K) (hd : o.dst = some d := by rfl) (hN : d < N := by decide) (hG : GE N F ops o.guard c gk := by first | exact GE.n | exact GE.s (by first | exact GV.pt rfl rfl | exact GV.pf rfl rfl | exact GV.gt rfl rfl | exact GV.gf rfl rfl)) (hX : NX m m' := by first | exact NX.l | exact NX.q | exact NX.x _ _ _ _ | exact NX.y _ _ _ _) (hQ : KQ ops K m Kq := by first | exact KQ.l | exact KQ.q | exact KQ.x (by decide +kernel) ks) (hy : YV P N w0 Kq F c o v := by first | exact a_move | exact a_assign | exact a_fld_box | exact a_fld_el | exact a_load | exact a_len | exact a_idx | exact a_pick_and | exact a_pick_or | exact a_extract | exact a_lss | exact a_eql | exact a_neq | exact a_leq | exact a_gtr | exact a_geq | exact a_not | exact a_add | exact a_sub | exact a_mul | exact a_load_aggA | exact a_addw | exact a_subw | exact a_mulw | exact a_quo | exact a_rem | exact a_fld_box' | exact a_fld_el' | exact a_len_str | exact a_nilck | exact a_eqlb | exact a_neqb | exact a_build | exact a_eqs | exact a_neqs | exact a_conv) (he : IE gk c v e := by first | exact IE.n _ _ | exact IE.s _ _) : HG P N w0 ops Q m (o :: rest) F K := hgv hd hN hG hQ hX hy he hr
/-- The same, the operation's rule told. -/
theorem qy {Kq : List Ck} (hd : o.dst = some d := by rfl) (hN : d < N := by decide) (hG : GE N F ops o.guard c gk := by first | exact GE.n | exact GE.s (by first | exact GV.pt rfl rfl | exact GV.pf rfl rfl | exact GV.gt rfl rfl | exact GV.gf rfl rfl)) (hX : NX m m' := by first | exact NX.l | exact NX.q | exact NX.x _ _ _ _ | exact NX.y _ _ _ _) (hQ : KQ ops K m Kq := by first | exact KQ.l | exact KQ.q | exact KQ.x (by decide +kernel) ks) (hy : YV P N w0 Kq F c o v) (hr : HG P N w0 ops Q m' rest ((d, e) :: F) K) (he : IE gk c v e := by first | exact IE.n _ _ | exact IE.s _ _) : HG P N w0 ops Q m (o :: rest) F K := hgv hd hN hG hQ hX hy he hr

/-- The same, in a region of which some make memory, where it comes up alone. -/
theorem qs {s : Nat} {Kp : List Ck} {is : List Nat} (hr : HG P N w0 ops Q m' rest ((d, e) :: F) K) (hd : o.dst = some d := by rfl) (hN : d < N := by decide) (hG : GE N F ops o.guard c gk := by first | exact GE.n | exact GE.s (by first | exact GV.pt rfl rfl | exact GV.pf rfl rfl | exact GV.gt rfl rfl | exact GV.gf rfl rfl)) (hX : NX (.x s Kp is) m' := by exact NX.x _ _ _ _) (hQ : KC ops K (.x s Kp is) := by first | exact KC.x (by decide +kernel) (Or.inr ks) | exact KC.x (by decide +kernel) (Or.inl (by decide +kernel)) | exact KC.y (Or.inr ks) | exact KC.y (Or.inl (by decide +kernel))) (hy : YV P N w0 K F c o v := by first | exact a_move | exact a_assign | exact a_fld_box | exact a_fld_el | exact a_load | exact a_len | exact a_idx | exact a_pick_and | exact a_pick_or | exact a_extract | exact a_lss | exact a_eql | exact a_neq | exact a_leq | exact a_gtr | exact a_geq | exact a_not | exact a_add | exact a_sub | exact a_mul | exact a_load_aggA | exact a_addw | exact a_subw | exact a_mulw | exact a_quo | exact a_rem | exact a_fld_box' | exact a_fld_el' | exact a_len_str | exact a_nilck | exact a_eqlb | exact a_neqb | exact a_build | exact a_eqs | exact a_neqs | exact a_conv) (he : IE gk c v e := by first | exact IE.n _ _ | exact IE.s _ _) : HG P N w0 ops Q (.x s Kp is) (o :: rest) F K := hg hd hN hG hQ hX hy.y he hr
/-! ### Calls -/
theorem opx {xs : List Operand} {vs : List Value} (h : Opds N F c xs vs := by (repeat (first | exact Opds.nil | (apply Opds.cons; (first | exact Opd.pl rfl | exact Opd.gd rfl (fun h => h) | exact Opd.gd rfl (by simp; done) | exact Opd.gd rfl (by simp +contextual; done))))); first | done | fail) : Opds N F c xs vs := h
/-- A call that answers a value. -/
theorem cl {f : FuncId} [T : FnOk P f] {xs : Array Operand} {ts : Array TypeId} {vs : List Value} (hN : d < N := by decide) (hG : GE N F ops gd c gk := by first | exact GE.n | exact GE.s (by first | exact GV.pt rfl rfl | exact GV.pf rfl rfl | exact GV.gt rfl rfl | exact GV.gf rfl rfl)) (hx : Opds N F c xs.toList vs := by exact opx) (h : c = true → ∀ w, KOk w0 K w → Calls P f vs.toArray w (Ret (fun _ : Unit => v) (fun _ => []) w)) (k : HG P N w0 ops Q m' rest ((d, e) :: F) K) (he : IE gk c v e := by first | exact IE.n _ _ | exact IE.s _ _) (hX : NX m m' := by first | exact NX.l | exact NX.q | exact NX.x _ _ _ _ | exact NX.y _ _ _ _) (hQ : KC ops K m := by first | exact KC.l | exact KC.q | exact KC.x (by decide +kernel) (Or.inr ks) | exact KC.x (by decide +kernel) (Or.inl (by decide +kernel)) | exact KC.y (Or.inr ks) | exact KC.y (Or.inl (by decide +kernel))) :
    HG P N w0 ops Q m (⟨some d, .call { callee := .value (.func f), args := xs, argTypes := ts }, ty, pos, af, gd⟩ :: rest) F K := hg rfl hN hG hQ hX (y_callv h hx) he k
/-- A call through a value. -/
theorem clt {f : FuncId} [T : FnOk P f] {g : Operand} {xs : Array Operand} {ts : Array TypeId} {vs : List Value} (hN : d < N := by decide) (hG : GE N F ops gd c gk := by first | exact GE.n | exact GE.s (by first | exact GV.pt rfl rfl | exact GV.pf rfl rfl | exact GV.gt rfl rfl | exact GV.gf rfl rfl)) (hg' : Opd N F c g (.func (.func f) #[] #[]) := by first | exact Opd.pl rfl | exact Opd.gd rfl (fun h => h)) (hx : Opds N F c xs.toList vs := by exact opx) (h : c = true → ∀ w, KOk w0 K w → Calls P f vs.toArray w (Ret (fun _ : Unit => v) (fun _ => []) w)) (k : HG P N w0 ops Q m' rest ((d, e) :: F) K) (he : IE gk c v e := by first | exact IE.n _ _ | exact IE.s _ _) (hX : NX m m' := by first | exact NX.l | exact NX.q | exact NX.x _ _ _ _ | exact NX.y _ _ _ _) (hQ : KC ops K m := by first | exact KC.l | exact KC.q | exact KC.x (by decide +kernel) (Or.inr ks) | exact KC.x (by decide +kernel) (Or.inl (by decide +kernel)) | exact KC.y (Or.inr ks) | exact KC.y (Or.inl (by decide +kernel))) :
    HG P N w0 ops Q m (⟨some d, .call { callee := .value g, args := xs, argTypes := ts }, ty, pos, af, gd⟩ :: rest) F K := hg rfl hN hG hQ hX (y_callt h hg' hx) he k
/-- A call that hands back new memory. -/
theorem cm {α : Type} {val : α → Value} {Kr : α → List Ck} {f : FuncId} [T : FnOk P f] {xs : Array Operand} {ts : Array TypeId} {vs : List Value} (hN : d < N := by decide) (hx : Opds N F true xs.toList vs := by exact opx) (h : ∀ w, KOk w0 K w → Calls P f vs.toArray w (Ret val Kr w)) (k : ∀ z, HG P N w0 ops Q m' rest ((d, .pl (val z)) :: F) (Kr z ++ K)) (hX : NX m m' := by first | exact NX.l | exact NX.q | exact NX.x _ _ _ _ | exact NX.y _ _ _ _) (hA : KA ops m := by first | exact KA.l | exact KA.y | exact KA.x (by decide +kernel)) (hB : ∀ z, KB ops m (Kr z ++ K) := by first | exact fun _ => KB.l | exact fun _ => KB.x (Or.inr ks) | exact fun _ => KB.x (Or.inl (by decide +kernel)) | exact fun _ => KB.y (Or.inr ks) | exact fun _ => KB.y (Or.inl (by decide +kernel))) :
    HG P N w0 ops Q m (⟨some d, .call { callee := .value (.func f), args := xs, argTypes := ts }, ty, pos, af, none⟩ :: rest) F K := hgo (Fi := fun z => (d, .pl (val z)) :: F) (Ki := fun z => Kr z ++ K) hA hB hX rfl k (fun Q' Kn hk => oc h hk hN hx)
/-- A call that changes what the caller owns. -/
theorem ck {α : Type} {val : α → Value} {Kr : α → List Ck} {f : FuncId} [T : FnOk P f] {xs : Array Operand} {ts : Array TypeId} {vs : List Value} (hN : d < N := by decide) (hx : Opds N F true xs.toList vs := by exact opx) (h : ∀ w, KOk w0 K w → Calls P f vs.toArray w (RetK val Kr w0)) (k : ∀ z, HG P N w0 ops Q m' rest ((d, .pl (val z)) :: F) (Kr z)) (hX : NX m m' := by first | exact NX.l | exact NX.q | exact NX.x _ _ _ _ | exact NX.y _ _ _ _) (hA : KA ops m := by first | exact KA.l | exact KA.y | exact KA.x (by decide +kernel)) (hB : ∀ z, KB ops m (Kr z) := by first | exact fun _ => KB.l | exact fun _ => KB.x (Or.inr ks) | exact fun _ => KB.x (Or.inl (by decide +kernel)) | exact fun _ => KB.y (Or.inr ks) | exact fun _ => KB.y (Or.inl (by decide +kernel))) :
    HG P N w0 ops Q m (⟨some d, .call { callee := .value (.func f), args := xs, argTypes := ts }, ty, pos, af, none⟩ :: rest) F K := hgo (Fi := fun z => (d, .pl (val z)) :: F) (Ki := Kr) hA hB hX rfl k (fun Q' Kn hk => ok h hk hN hx)
/-- One chunk of the caller's is changed by a call. -/
theorem ckp {α : Type} {val : α → Value} {k0 : Ck} {k1 : α → List Ck} {f : FuncId} [T : FnOk P f] {xs : Array Operand} {ts : Array TypeId} {vs : List Value} (hN : d < N := by decide) (hx : Opds N F true xs.toList vs := by exact opx) (h : ∀ K'' w, KOk w0 (k0 :: K'') w → Calls P f vs.toArray w (RetK val (fun z => k1 z ++ K'') w0)) (k : ∀ z, HG P N w0 ops Q m' rest ((d, .pl (val z)) :: F) (k1 z ++ K')) (hp : Pick K k0 K' := by exact pk) (hX : NX m m' := by first | exact NX.l | exact NX.q | exact NX.x _ _ _ _ | exact NX.y _ _ _ _) (hA : KA ops m := by first | exact KA.l | exact KA.y | exact KA.x (by decide +kernel)) (hB : ∀ z, KB ops m (k1 z ++ K') := by first | exact fun _ => KB.l | exact fun _ => KB.x (Or.inr ks) | exact fun _ => KB.x (Or.inl (by decide +kernel)) | exact fun _ => KB.y (Or.inr ks) | exact fun _ => KB.y (Or.inl (by decide +kernel))) :
    HG P N w0 ops Q m (⟨some d, .call { callee := .value (.func f), args := xs, argTypes := ts }, ty, pos, af, none⟩ :: rest) F K := ck hN hx (fun w hw => h K' w (hw.pick hp)) k hX hA hB
theorem RdF.ofK {α : Type} [Flat α] {w : World} {e : TypeId} {v : Value} {xs : List α} (hK : KOk w0 K w) (hm : E.ownF e v xs ∈ K := by exact mm) : RdF w v xs := RdF.of_own hm hK
theorem RdIn.sub {α : Type} [Flat α] {L : List Ck} {v : Value} {xs : List α} (h : RdIn w0 L v xs) (hs : KSub K L) : RdIn w0 K v xs := fun w hw => h w (hw.sub hs)
theorem RdIn.att {α : Type} [Flat α] {w : World} {L : List Ck} {v : Value} {xs : List α} (h : RdIn w0 L v xs) (hw : KOk w0 K w) (hs : SubL K L := by exact subl) : RdF w v xs := h w (hw.sub hs.ksub)
/-- .. in every world in which the chunks K are known. -/
theorem rdI {α : Type} [Flat α] {v : Value} {xs : List α} (h : RdIn w0 K v xs := by (first | assumption | exact RdIn.rd (by assumption) | exact RdIn.own mm | exact RdIn.sub (by assumption) (SubL.ksub subl) | exact RdIn.rd (RdF.nil _)); first | done | fail) : RdIn w0 K v xs := h
/-- A slice that a callee reads: it was handed in, or it is the caller's own. -/
theorem rdA {α : Type} [Flat α] {w : World} {v : Value} {xs : List α} (h : RdF w v xs := by (first | assumption | exact RdF.now (by assumption) (by assumption) | exact RdF.ofK (by assumption) | exact RdIn.att (by assumption) (by assumption) | exact RdF.nil _); first | done | fail) : RdF w v xs := h

/-! ### Memory -/
theorem bx {cs : List Value} (hr : ∀ g, HG P N w0 ops Q m' rest ((d, .pl (.pointer (some ⟨g, 0, none⟩))) :: F) (.box g t cs :: K)) (hN : d < N := by decide) (hx : Opd N F true x v := by exact Opd.pl rfl) (hc : v.cells = cs.toArray := by first | rfl | exact one_cells (by assumption)) (hX : NX m m' := by first | exact NX.l | exact NX.q | exact NX.x _ _ _ _ | exact NX.y _ _ _ _) (hA : KA ops m := by first | exact KA.l | exact KA.y | exact KA.x (by decide +kernel)) (hB : ∀ (g : Nat), KB ops m (.box g t cs :: K) := by first | exact fun _ => KB.l | exact fun _ => KB.x (Or.inr ks) | exact fun _ => KB.x (Or.inl (by decide +kernel)) | exact fun _ => KB.y (Or.inr ks) | exact fun _ => KB.y (Or.inl (by decide +kernel))) : HG P N w0 ops Q m (⟨some d, .box t x, ty, pos, af, none⟩ :: rest) F K := hgo (Fi := fun g : Nat => (d, .pl (.pointer (some ⟨g, 0, none⟩))) :: F) (Ki := fun g => .box g t cs :: K) hA hB hX rfl hr (fun Q' Kn hk => ob hk hN hx hc)
theorem al {zs : List Value} [T : TZero P t zs] (hr : ∀ g, HG P N w0 ops Q m' rest ((d, .pl (.pointer (some ⟨g, 0, none⟩))) :: F) (.box g t zs :: K)) (hN : d < N := by decide) (hX : NX m m' := by first | exact NX.l | exact NX.q | exact NX.x _ _ _ _ | exact NX.y _ _ _ _) (hA : KA ops m := by first | exact KA.l | exact KA.y | exact KA.x (by decide +kernel)) (hB : ∀ (g : Nat), KB ops m (.box g t zs :: K) := by first | exact fun _ => KB.l | exact fun _ => KB.x (Or.inr ks) | exact fun _ => KB.x (Or.inl (by decide +kernel)) | exact fun _ => KB.y (Or.inr ks) | exact fun _ => KB.y (Or.inl (by decide +kernel))) : HG P N w0 ops Q m (⟨some d, .alloc t, ty, pos, af, none⟩ :: rest) F K := hgo (Fi := fun g : Nat => (d, .pl (.pointer (some ⟨g, 0, none⟩))) :: F) (Ki := fun g => .box g t zs :: K) hA hB hX rfl hr (fun Q' Kn hk => oa hk hN)
theorem one_all {vs : List Value} (h : ∀ u ∈ vs, u.oneCell' = true := by first | exact List.all_eq_true.1 rfl | (intro u hu; simp only [List.mem_cons, List.mem_nil_iff, or_false] at hu; (repeat' (rcases hu with rfl | hu)) <;> first | rfl | assumption | (subst hu; first | rfl | assumption)) | (simp [Value.oneCell', *])) : ∀ u ∈ vs, u.oneCell' = true := h
theorem sb {t0 : TypeId} {vs cs cs' : List Value} {g i n : Nat} [T : TSize P t n] (hr : HG P N w0 ops Q m' rest F (.box g t0 cs' :: K')) (hx : Opd N F true x (.pointer (some ⟨g, i, none⟩)) := by exact Opd.pl rfl) (hy : Opd N F true y v := by exact Opd.pl rfl) (hv : v.cells = vs.toArray := by first | rfl | exact one_cells (by assumption)) (hn : vs.length = n := by rfl) (hp : Pick K (.box g t0 cs) K' := by exact pk) (hs : SetN cs i vs cs' := by (repeat (first | exact SetN.nil _ | apply SetN.here | apply SetN.there)); first | done | fail) (h1 : ∀ u ∈ vs, u.oneCell' = true := by exact one_all) (hX : NX m m' := by first | exact NX.l | exact NX.q | exact NX.x _ _ _ _ | exact NX.y _ _ _ _) (hA : KA ops m := by first | exact KA.l | exact KA.y | exact KA.x (by decide +kernel)) (hB : ∀ (_ : Unit), KB ops m (.box g t0 cs' :: K') := by first | exact fun _ => KB.l | exact fun _ => KB.x (Or.inr ks) | exact fun _ => KB.x (Or.inl (by decide +kernel)) | exact fun _ => KB.y (Or.inr ks) | exact fun _ => KB.y (Or.inl (by decide +kernel))) : HG P N w0 ops Q m (⟨none, .store t x y, ty, pos, af, none⟩ :: rest) F K := hgo (Fi := fun _ : Unit => F) (Ki := fun _ => .box g t0 cs' :: K') hA hB hX rfl (fun _ => hr) (fun Q' Kn hk => ho_store_box hx hy hv hn h1 hp hs (hk ()))
/-- A store into a typed row. -/
theorem tr {α : Type} [Flat α] {e : TypeId} {vs cs' : List Value} {xs : List α} {a a' : α} {k j sz mm : Nat} [T : TSize P t mm] (hr : HG P N w0 ops Q m' rest F (ownF e v (xs.set k a') :: K')) (hx : Opd N F true x (eptr v sz k j) := by exact Opd.pl rfl) (hp : Pick K (ownF e v xs) K' := by exact pk) (ha : xs[k]? = some a := by assumption) (hsz : sz = Flat.k α := by rfl) (hy : Opd N F true y u := by exact Opd.pl rfl) (hv : u.cells = vs.toArray := by first | rfl | exact one_cells (by assumption)) (hm : vs.length = mm := by rfl) (h1 : ∀ u ∈ vs, u.oneCell' = true := by exact one_all) (hs : SetN (Flat.f a) j vs cs' := by (repeat (first | exact SetN.nil _ | apply SetN.here | apply SetN.there)); first | done | fail) (hM : MkI α cs' a' := by exact inferInstance) (hX : NX m m' := by first | exact NX.l | exact NX.q | exact NX.x _ _ _ _ | exact NX.y _ _ _ _) (hA : KA ops m := by first | exact KA.l | exact KA.y | exact KA.x (by decide +kernel)) (hB : ∀ (_ : Unit), KB ops m (ownF e v (xs.set k a') :: K') := by first | exact fun _ => KB.l | exact fun _ => KB.x (Or.inr ks) | exact fun _ => KB.x (Or.inl (by decide +kernel)) | exact fun _ => KB.y (Or.inr ks) | exact fun _ => KB.y (Or.inl (by decide +kernel))) : HG P N w0 ops Q m (⟨none, .store t x y, ty, pos, af, none⟩ :: rest) F K := hgo (Fi := fun _ : Unit => F) (Ki := fun _ => ownF e v (xs.set k a') :: K') hA hB hX rfl (fun _ => hr) (fun Q' Kn hk => ho_set hx hsz hp hy hv hm h1 ha (by rw [hM.eq]; exact hs) (hk ()))
/-- .. and the row is named anew. -/
theorem trn {α : Type} [Flat α] {e : TypeId} {vs cs' : List Value} {xs : List α} {a a' : α} {k j sz mm : Nat} [T : TSize P t mm] (hr : ∀ R : List α, R = xs.set k a' → R.length = xs.length → R[k]? = some a' → HG P N w0 ops Q m' rest F (ownF e v R :: K')) (hx : Opd N F true x (eptr v sz k j) := by exact Opd.pl rfl) (hp : Pick K (ownF e v xs) K' := by exact pk) (ha : xs[k]? = some a := by assumption) (hsz : sz = Flat.k α := by rfl) (hy : Opd N F true y u := by exact Opd.pl rfl) (hv : u.cells = vs.toArray := by first | rfl | exact one_cells (by assumption)) (hm : vs.length = mm := by rfl) (h1 : ∀ u ∈ vs, u.oneCell' = true := by exact one_all) (hs : SetN (Flat.f a) j vs cs' := by (repeat (first | exact SetN.nil _ | apply SetN.here | apply SetN.there)); first | done | fail) (hM : MkI α cs' a' := by exact inferInstance) (hX : NX m m' := by first | exact NX.l | exact NX.q | exact NX.x _ _ _ _ | exact NX.y _ _ _ _) (hA : KA ops m := by first | exact KA.l | exact KA.y | exact KA.x (by decide +kernel)) (hB : ∀ (_ : Unit), KB ops m (ownF e v (xs.set k a') :: K') := by first | exact fun _ => KB.l | exact fun _ => KB.x (Or.inr ks) | exact fun _ => KB.x (Or.inl (by decide +kernel)) | exact fun _ => KB.y (Or.inr ks) | exact fun _ => KB.y (Or.inl (by decide +kernel))) : HG P N w0 ops Q m (⟨none, .store t x y, ty, pos, af, none⟩ :: rest) F K := hgo (Fi := fun _ : Unit => F) (Ki := fun _ => ownF e v (xs.set k a') :: K') hA hB hX rfl (fun _ => hr _ rfl (by simp) (by simp [(List.getElem?_eq_some_iff.1 ha).1])) (fun Q' Kn hk => ho_set hx hsz hp hy hv hm h1 ha (by rw [hM.eq]; exact hs) (hk ()))
theorem mk {α : Type} [Flat α] {e : TypeId} {n bytes : Nat} {zs : List Value} [T : TSlc P t e] [M : TMk P e zs bytes] [ElT P e α] {z' : α} (hr : ∀ v', v'.oneCell' = true → HG P N w0 ops Q m' rest ((d, .pl v') :: F) (ownF e v' (List.replicate n z') :: K)) (hN : d < N := by decide) (hx : Opd N F true x (.int .i64 (n : Int)) := by exact Opd.pl rfl) (hy : Opd N F true y (.int .i64 (n : Int)) := by exact Opd.pl rfl) (hM : MkI α zs z' := by exact inferInstance) (hb : bytes * n ≤ 281474976710656 ∧ n ≤ maxLen := by first | exact ⟨by omega, by simp only [maxLen]; omega⟩ | exact ⟨by omega, by simp only [maxLen] at *; omega⟩) (hpos : 0 < Flat.k α := by decide) (hX : NX m m' := by first | exact NX.l | exact NX.q | exact NX.x _ _ _ _ | exact NX.y _ _ _ _) (hA : KA ops m := by first | exact KA.l | exact KA.y | exact KA.x (by decide +kernel)) (hB : ∀ (z : { v' : Value // v'.oneCell' = true }), KB ops m (ownF e z.1 (List.replicate n z') :: K) := by first | exact fun _ => KB.l | exact fun _ => KB.x (Or.inr ks) | exact fun _ => KB.x (Or.inl (by decide +kernel)) | exact fun _ => KB.y (Or.inr ks) | exact fun _ => KB.y (Or.inl (by decide +kernel))) :
    HG P N w0 ops Q m (⟨some d, .makeSlice t x y, ty, pos, af, none⟩ :: rest) F K := hgo (Fi := fun z => (d, .pl z.1) :: F) (Ki := fun z : { v' : Value // v'.oneCell' = true } => ownF e z.1 (List.replicate n z') :: K) hA hB hX rfl (fun z => hr z.1 z.2) (fun Q' Kn hk => ho_make z' hM.eq hpos hN hx hy hb (fun v' h => hk ⟨v', h⟩))
theorem b0 {e : TypeId} {bytes : Nat} {zs : List Value} [T : TSlc P t e] [M : TMk P e zs bytes] {α : Type} [ElT P e α] [Flat α] (hr : ∀ v', v'.oneCell' = true → HG P N w0 ops Q m' rest ((d, .pl v') :: F) (ownF e v' ([] : List α) :: K)) (hN : d < N := by decide) (hX : NX m m' := by first | exact NX.l | exact NX.q | exact NX.x _ _ _ _ | exact NX.y _ _ _ _) (hA : KA ops m := by first | exact KA.l | exact KA.y | exact KA.x (by decide +kernel)) (hB : ∀ (z : { v' : Value // v'.oneCell' = true }), KB ops m (ownF e z.1 ([] : List α) :: K) := by first | exact fun _ => KB.l | exact fun _ => KB.x (Or.inr ks) | exact fun _ => KB.x (Or.inl (by decide +kernel)) | exact fun _ => KB.y (Or.inr ks) | exact fun _ => KB.y (Or.inl (by decide +kernel))) :
    HG P N w0 ops Q m (⟨some d, .buildSlice t 0 #[], ty, pos, af, none⟩ :: rest) F K := hgo (Fi := fun z => (d, .pl z.1) :: F) (Ki := fun z : { v' : Value // v'.oneCell' = true } => ownF e z.1 ([] : List α) :: K) hA hB hX rfl (fun z => hr z.1 z.2) (fun Q' Kn hk => ho_bs0 (M := M) hN (fun v' h => hk ⟨v', h⟩))
theorem b1 {α : Type} [Flat α] {e : TypeId} {bytes : Nat} {zs vs : List Value} [T : TSlc P t e] [M : TMk P e zs bytes] [ElT P e α] {a : α} (hr : ∀ v', v'.oneCell' = true → HG P N w0 ops Q m' rest ((d, .pl v') :: F) (ownF e v' [a] :: K)) (hN : d < N := by decide) (hx : Opd N F true x v := by exact Opd.pl rfl) (hv : v.cells = vs.toArray := by first | rfl | exact one_cells (by assumption)) (hM : MkI α vs a := by exact inferInstance) (hl : vs.length = zs.length := by rfl) (hpos : 0 < zs.length := by decide) (hsm : zs.length ≤ 2 ^ 24 := by decide) (hX : NX m m' := by first | exact NX.l | exact NX.q | exact NX.x _ _ _ _ | exact NX.y _ _ _ _) (hA : KA ops m := by first | exact KA.l | exact KA.y | exact KA.x (by decide +kernel)) (hB : ∀ (z : { v' : Value // v'.oneCell' = true }), KB ops m (ownF e z.1 [a] :: K) := by first | exact fun _ => KB.l | exact fun _ => KB.x (Or.inr ks) | exact fun _ => KB.x (Or.inl (by decide +kernel)) | exact fun _ => KB.y (Or.inr ks) | exact fun _ => KB.y (Or.inl (by decide +kernel))) :
    HG P N w0 ops Q m (⟨some d, .buildSlice t 1 #[(0, x)], ty, pos, af, none⟩ :: rest) F K := hgo (Fi := fun z => (d, .pl z.1) :: F) (Ki := fun z : { v' : Value // v'.oneCell' = true } => ownF e z.1 [a] :: K) hA hB hX rfl (fun z => hr z.1 z.2) (fun Q' Kn hk => ho_bs1 a hN hx hv hM.eq hl hpos hsm (fun v' h => hk ⟨v', h⟩))
theorem ap {α : Type} [Flat α] {e : TypeId} {xs ys : List α} {sz bytes : Nat} [T : TSlc P t e] [R : TRow P e sz bytes] (hr : ∀ v', v'.oneCell' = true → HG P N w0 ops Q m' rest ((d, .pl v') :: F) (ownF e v' (xs ++ ys) :: K')) (hN : d < N := by decide) (hx : Opd N F true x v := by exact Opd.pl rfl) (hy : Opd N F true y u := by exact Opd.pl rfl) (hp : Pick K (ownF e v xs) K' := by exact pk) (hs : Src w0 K' (Flat.k α) u ys.length (cells ys) := by first | exact Src.rdF (by assumption) | exact Src.ownF mm) (hb : (xs.length + ys.length) * bytes ≤ 140737488355328 ∧ xs.length + ys.length ≤ maxLen := by first | (simp only [maxLen]; omega) | (simp only [List.length_append, List.length_cons, List.length_nil, maxLen] at *; omega)) (hsz : sz = Flat.k α := by rfl) (hX : NX m m' := by first | exact NX.l | exact NX.q | exact NX.x _ _ _ _ | exact NX.y _ _ _ _) (hA : KA ops m := by first | exact KA.l | exact KA.y | exact KA.x (by decide +kernel)) (hB : ∀ (z : { v' : Value // v'.oneCell' = true }), KB ops m (ownF e z.1 (xs ++ ys) :: K') := by first | exact fun _ => KB.l | exact fun _ => KB.x (Or.inr ks) | exact fun _ => KB.x (Or.inl (by decide +kernel)) | exact fun _ => KB.y (Or.inr ks) | exact fun _ => KB.y (Or.inl (by decide +kernel))) :
    HG P N w0 ops Q m (⟨some d, .call { callee := .builtin .append, args := #[x, y], argTypes := #[t, t] }, ty, pos, af, none⟩ :: rest) F K := hgo (Fi := fun z => (d, .pl z.1) :: F) (Ki := fun z : { v' : Value // v'.oneCell' = true } => ownF e z.1 (xs ++ ys) :: K') hA hB hX rfl (fun z => hr z.1 z.2) (fun Q' Kn hk => ho_app hsz hN hx hy hp hs hb (fun v' h => hk ⟨v', h⟩))
/-- A nil row, as an own one. -/
theorem nl {cd : Code} (e : TypeId) {α : Type} [ElT P e α] [Flat α] (h : HC P N w0 cd Q F (ownF e (.slice none 0 0) ([] : List α) :: K)) : HC P N w0 cd Q F K := hc_addnil α e h

/-! ### Loops, and where ways meet -/
theorem eqi {a b : Int} (h : a = b := by first | with_reducible rfl | omega) : a = b := h
theorem eqq {α : Sort _} {a b : α} (h : a = b := by first | with_reducible rfl | assumption | (apply Eq.symm; assumption)) : a = b := h
theorem fs {F F' : List (Nat × En)} (h : FSub F F' := by (repeat (first | exact FSub.nil | refine FSub.int rfl eqi ?_ | refine FSub.bool rfl eqq ?_ | refine FSub.cons rfl ?_)); first | done | fail) : FSub F F' := h
theorem ks {K K' : List Ck} (h : KSub K K' := by (repeat (first | exact KSub.nil _ | exact KSub.refl _ | refine KSub.pick pk ?_ | refine KSub.ownF pk eqq ?_ | refine KSub.box pk eqq ?_ | exact SubL.ksub subl)); first | done | fail) : KSub K K' := h
theorem lp {α : Type} {body : Code} (I : α → Prop) (Fi : α → List (Nat × En)) (Ki : α → List Ck) (μ : α → Nat) (x0 : α) (h0 : I x0)
    (round : ∀ x, I x → HC P N w0 body (Exit.then (fun a w => ∃ y, I y ∧ μ y < μ x ∧ FrOk N (Fi y) a ∧ KOk w0 (Ki y) w) Q) (Fi x) (Ki x)) (hF : FSub F (Fi x0) := by exact fs) (hK : KSub K (Ki x0) := by exact ks) : HC P N w0 (.loop body) Q F K := hc_loop I Fi Ki μ x0 h0 hF hK round
theorem rd {α : Type} {I : α → Prop} {Fi : α → List (Nat × En)} {Ki : α → List Ck} {μ : α → Nat} {m : Nat} (y : α) (hI : I y) (hm : μ y < m := by first | omega | (dsimp only; omega)) (hF : FSub F (Fi y) := by exact fs) (hK : KSub K (Ki y) := by exact ks) :
    At N w0 (Exit.then (fun a w => ∃ y, I y ∧ μ y < m ∧ FrOk N (Fi y) a ∧ KOk w0 (Ki y) w) Q .normal) F K := at_round y hI hm hF hK
theorem KOk.spl {w0 w : World} {K L K' : List Ck} (h : KOk w0 K w) (hs : Spl K L K') : KOk w0 (L ++ K') w := h.perm hs.perm
theorem sp {K L K' : List Ck} (h : Spl K L K' := by (repeat (first | exact Spl.nil _ | (apply Spl.cons; exact pk) | (apply Spl.ownF; exact pk; exact eqq) | (apply Spl.box; exact pk; exact eqq))); first | done | fail) : Spl K L K' := h
/-- A loop: the slots that it writes (and that are read later) are told by C, the chunks that it turns by Kc; all else stays. -/
theorem lq {α : Type} {body : Code} (I : α → Prop) (C : α → List (Nat × En)) (Kc : α → List Ck) (μ : α → Nat) (x0 : α) (h0 : I x0) {F0 : List (Nat × En)} {K0 : List Ck}
    (round : ∀ x, I x → HC P N w0 body (Exit.then (fun a w => ∃ y, I y ∧ μ y < μ x ∧ FrOk N (C y ++ F0) a ∧ KOk w0 (Kc y ++ K0) w) Q) (C x ++ F0) (Kc x ++ K0)) (hS : Strip ((C x0).map Prod.fst) F F0 := by exact stp) (hK : Spl K (Kc x0) K0 := by exact sp) (hF : FSub F (C x0) := by exact fs) : HC P N w0 (.loop body) Q F K := fun a w ha hw => by
  have ha' : FrOk N (C x0 ++ F0) a := ha.less (FSub.app hF hS.sub)
  have hw' := hw.spl hK
  exact lp I (fun x => C x ++ F0) (fun x => Kc x ++ K0) μ x0 h0 round (FSub.refl _) (KSub.refl _) a w ha' hw'
theorem md {α : Type} {I : α → Prop} {Fi : α → List (Nat × En)} {Ki : α → List Ck} (z : α) (hI : I z) (hF : FSub F (Fi z) := by exact fs) (hK : KSub K (Ki z) := by exact ks) :
    At N w0 (Exit.then (fun a w => ∃ z, I z ∧ FrOk N (Fi z) a ∧ KOk w0 (Ki z) w) Q .normal) F K := fun a w ha hw => ⟨z, hI, ha.less hF, hw.sub hK⟩

theorem rv0 {fn : Func} {tt : Nat} (hv : v = u) (hr : fn.results.toList = [.tmp tt] := by rfl) (h : ev F (.tmp tt) = some v := by rfl) : At N w0 (bodyPost P fn (Ret (fun _ : Unit => u) (fun _ => []) w0) .ret) F K := ret0 hv hr h
theorem rb {fn : Func} {tt : Nat} {a b : Bool} (hv : a = b := by rfl) (hr : fn.results.toList = [.tmp tt] := by rfl) (h : ev F (.tmp tt) = some (.bool a) := by rfl) : At N w0 (bodyPost P fn (Ret (fun _ : Unit => .bool b) (fun _ => []) w0) .ret) F K := ret0 (by rw [hv]) hr h
theorem ri {fn : Func} {tt : Nat} {a b : Int} (hv : a = b := by rfl) (hr : fn.results.toList = [.tmp tt] := by rfl) (h : ev F (.tmp tt) = some (.int .i64 a) := by rfl) : At N w0 (bodyPost P fn (Ret (fun _ : Unit => .int .i64 b) (fun _ => []) w0) .ret) F K := ret0 (by rw [hv]) hr h
theorem sbc {cs vs : List Value} {i n : Nat} (h : SubC cs i n vs := by (repeat (first | exact SubC.nil _ | apply SubC.here | apply SubC.there)); first | done | fail) : SubC cs i n vs := h
theorem rvs {rs : List ResultVar} {vs : List Value} (h : RV P N w0 F K rs vs := by (repeat (first | exact RV.nil | (apply RV.tmp; rfl) | (apply RV.cellC; rfl; exact LdC.box mm sbc))); first | done | fail) : RV P N w0 F K rs vs := h
/-- One result, with new chunks. -/
theorem r1 {fn : Func} {α : Type} {val : α → Value} {Kr : α → List Ck} (x : α) (h : RV P N w0 F K fn.results.toList [v] := by exact rvs) (hv : v = val x := by rfl) (hK : KSub K (Kr x) := by exact ks) : At N w0 (bodyPost P fn (Ret val Kr w0) .ret) F K := at_ret1 h (fun w hw => Ret.mk x hv hw hK)
theorem rn {fn : Func} {α : Type} {val : α → Value} {Kr : α → List Ck} {vs : List Value} (x : α) (h : RV P N w0 F K fn.results.toList vs := by exact rvs) (hv : .tuple vs.toArray = val x := by rfl) (hn : vs.length ≠ 1 := by simp) (hK : KSub K (Kr x) := by exact ks) : At N w0 (bodyPost P fn (Ret val Kr w0) .ret) F K := at_retn h hn (fun w hw => Ret.mk x hv hw hK)
theorem r1K {fn : Func} {α : Type} {val : α → Value} {Kr : α → List Ck} (x : α) (h : RV P N w0 F K fn.results.toList [v] := by exact rvs) (hv : v = val x := by rfl) (hK : KSub K (Kr x) := by exact ks) : At N w0 (bodyPost P fn (RetK val Kr w0) .ret) F K := at_ret1 h (fun w hw => RetK.mk x hv hw hK)
theorem rnK {fn : Func} {α : Type} {val : α → Value} {Kr : α → List Ck} {vs : List Value} (x : α) (h : RV P N w0 F K fn.results.toList vs := by exact rvs) (hv : .tuple vs.toArray = val x := by rfl) (hn : vs.length ≠ 1 := by simp) (hK : KSub K (Kr x) := by exact ks) : At N w0 (bodyPost P fn (RetK val Kr w0) .ret) F K := at_retn h hn (fun w hw => RetK.mk x hv hw hK)
end
end E
end Go.Proofs.YtpiiapoafmnhhaaGreat
