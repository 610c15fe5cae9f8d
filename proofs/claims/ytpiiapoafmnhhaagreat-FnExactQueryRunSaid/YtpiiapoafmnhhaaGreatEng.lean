/- The engine: frames told in part, known blocks, and rules by which the text of a Go function is walked, over whatever program. -/
import Derived.WalkKit
import Derived.Deep.QuietTactic
import Derived.BigQuiet
import Derived.KernelRfl
import Derived.OrdersHeld
namespace Go.Proofs.YtpiiapoafmnhhaaGreat
namespace E
open Go Go.RowKit

/-- An entry of a frame that is told in part: a value, or a value that is there where a guard holds. -/
inductive En where
  | pl (v : Value)
  | gd (c : Bool) (v : Value)

def En.val : En → Value
  | .pl v => v
  | .gd c v => if c = true then v else undef

def look : List (Nat × En) → Nat → Option En
  | [], _ => none
  | (k, e) :: F, n => match Nat.beq n k with
    | true => some e
    | false => look F n

/-- The frame 'a' has N slots, nothing is deferred, and its slots hold what F says (the newest word first). -/
structure FrOk (N : Nat) (F : List (Nat × En)) (a : Act) : Prop where
  size : a.tmps.size = N
  defers : a.defers = []
  slot : ∀ n e, look F n = some e → a.tmps.getD n undef = e.val

theorem FrOk.put {N : Nat} {F : List (Nat × En)} {a : Act} (h : FrOk N F a) (d : Nat) (e : En) (v : Value) (hd : d < N) (hv : v = e.val) : FrOk N ((d, e) :: F) (a.put (some d) v) := by
  subst hv
  refine ⟨by simp [Act.put, h.size], by simp [Act.put, h.defers], fun n e' he => ?_⟩
  simp only [look] at he
  split at he
  · rename_i hb
    have : n = d := Nat.eq_of_beq_eq_true hb
    subst this
    injection he with he
    subst he
    simp [Act.put, Array.getD, h.size, hd]
  · rename_i hb
    have hne : d ≠ n := fun e => by subst e; simp at hb
    have := h.slot n e' he
    simp only [Act.put]
    rw [← this]
    simp only [Array.getD_eq_getD_getElem?]
    rw [Array.getElem?_setIfInBounds_ne hne]

theorem FrOk.put_none {N : Nat} {F : List (Nat × En)} {a : Act} (h : FrOk N F a) (v : Value) : FrOk N F (a.put none v) := h

/-- Less may be said. -/
theorem FrOk.less {N : Nat} {F F' : List (Nat × En)} {a : Act} (h : FrOk N F a) (hs : ∀ n e, look F' n = some e → look F n = some e) : FrOk N F' a :=
  ⟨h.size, h.defers, fun n e he => h.slot n e (hs n e he)⟩

def ev (F : List (Nat × En)) : Operand → Option Value
  | .tmp t => match look F t with
    | some (.pl v) => some v
    | _ => none
  | .const v => some v
  | .global g => some (.pointer (some ⟨g, 0, none⟩))
  | .func f => some (.func (.func f) #[] #[])

/-- Under the condition c the operand x is v. -/
def Opd (N : Nat) (F : List (Nat × En)) (c : Bool) (x : Operand) (v : Value) : Prop := ∀ a, FrOk N F a → c = true → a.eval x = v

section
variable {N : Nat} {F : List (Nat × En)} {c : Bool}
theorem Opd.pl {x : Operand} {v : Value} (h : ev F x = some v) : Opd N F c x v := fun a ha _ => by
  cases x with
  | tmp t =>
    simp only [ev] at h
    split at h
    · rename_i u hu
      injection h with h
      subst h
      exact ha.slot _ _ hu
    · cases h
  | const u => injection h
  | global g => injection h
  | func f => injection h
theorem Opd.gd {t : Nat} {v : Value} {c' : Bool} (h : look F t = some (.gd c' v)) (hc : c = true → c' = true) : Opd N F c (.tmp t) v := fun a ha hc1 => by
  have := ha.slot _ _ h
  simp only [En.val, hc hc1, if_true] at this
  exact this
theorem Opd.weak {x : Operand} {v : Value} {c' : Bool} (h : Opd N F c x v) (hc : c' = true → c = true) : Opd N F c' x v := fun a ha h' => h a ha (hc h')
end

/-- Several operands. -/
def Opds (N : Nat) (F : List (Nat × En)) (c : Bool) (xs : List Operand) (vs : List Value) : Prop := ∀ a, FrOk N F a → c = true → xs.map a.eval = vs
section
variable {N : Nat} {F : List (Nat × En)} {c : Bool}
theorem Opds.nil : Opds N F c [] [] := fun _ _ _ => rfl
theorem Opds.cons {x : Operand} {v : Value} {xs : List Operand} {vs : List Value} (h : Opd N F c x v) (hs : Opds N F c xs vs) : Opds N F c (x :: xs) (v :: vs) := fun a ha hc => by
  simp [h a ha hc, hs a ha hc]
end

/-! ### Known blocks -/
/-- What is known of memory that the call has made: a block whose cells are all known; a row that the call owns and may append to (nil, or at the head of a block of its own). -/
inductive Ck where
  | box (g : Nat) (t : TypeId) (cs : List Value)
  | own (v : Value) (e : TypeId) (sz n : Nat) (xs : List Value)
  | any (g : Nat) (p : Obj → Prop)

def Ck.blk : Ck → Option Nat
  | .box g _ _ => some g
  | .own v _ _ _ _ => v.ownBlock
  | .any g _ => some g

def Ck.holds (B : Nat) (w : World) : Ck → Prop
  | .box g t cs => B ≤ g ∧ w.heap[g]? = some (.cells cs.toArray t (0, 0))
  | .own v e sz n xs => w.ownsRow B e sz v n xs
  | .any g p => B ≤ g ∧ ∃ o, w.heap[g]? = some o ∧ p o

def Ck.apart (a b : Ck) : Prop := a.blk = none ∨ a.blk ≠ b.blk

/-- The world w: as w0 below its own blocks, and the chunks K lie there, apart from one another. -/
structure KOk (w0 : World) (K : List Ck) (w : World) : Prop where
  below : Below w0.heap.size w0 w
  holds : ∀ k, k ∈ K → k.holds w0.heap.size w
  apart : K.Pairwise Ck.apart

theorem Ck.lt {B : Nat} {w : World} {k : Ck} (h : k.holds B w) : ∀ g, k.blk = some g → B ≤ g ∧ g < w.heap.size := by
  intro g hg
  cases k with
  | box g' t cs =>
    simp only [Ck.blk, Option.some.injEq] at hg
    subst hg
    obtain ⟨h1, h2⟩ := h
    refine ⟨h1, ?_⟩
    rcases Nat.lt_or_ge g' w.heap.size with hlt | hge
    · exact hlt
    · rw [Array.getElem?_eq_none hge] at h2; cases h2
  | own v e sz n xs => exact World.ownsRow.lt h g hg
  | any g' p =>
    simp only [Ck.blk, Option.some.injEq] at hg
    subst hg
    obtain ⟨h1, o, h2, _⟩ := h
    refine ⟨h1, ?_⟩
    rcases Nat.lt_or_ge g' w.heap.size with hlt | hge
    · exact hlt
    · rw [Array.getElem?_eq_none hge] at h2; cases h2

theorem Ck.keep {B : Nat} {w w' : World} {k : Ck} (h : k.holds B w) (hk : ∀ g, k.blk = some g → w'.heap[g]? = w.heap[g]?) : k.holds B w' := by
  cases k with
  | box g' t cs => exact ⟨h.1, by rw [hk g' rfl]; exact h.2⟩
  | own v e sz n xs =>
    obtain ⟨h1, h2⟩ := h
    refine ⟨h1, ?_⟩
    rcases h2 with h2 | ⟨g, cap, cur, hv, hg, hh, r⟩
    · exact Or.inl h2
    · refine Or.inr ⟨g, cap, cur, hv, hg, ?_, r⟩
      rw [hk g (by simp [Ck.blk, hv, Value.ownBlock])]
      exact hh
  | any g' p => exact ⟨h.1, by rw [hk g' rfl]; exact h.2⟩

/-- A world that keeps all that there is. -/
theorem KOk.ext {w0 : World} {K : List Ck} {w w' : World} (h : KOk w0 K w) (hb : Below w.heap.size w w') : KOk w0 K w' :=
  ⟨h.below.trans (hb.mono h.below.size), fun k hk => Ck.keep (h.holds k hk) fun g hg => hb.block g (Ck.lt (h.holds k hk) g hg).2, h.apart⟩

theorem KOk.start (w : World) : KOk w [] w := ⟨Below.refl _ _, fun _ h => by (cases h), List.Pairwise.nil⟩

/-- A chunk in a block that is new. -/
theorem KOk.push {w0 : World} {K : List Ck} {w w' : World} (h : KOk w0 K w) (hb : Below w.heap.size w w') (k : Ck) (hk : k.holds w0.heap.size w') (hn : ∀ g, k.blk = some g → w.heap.size ≤ g) : KOk w0 (k :: K) w' := by
  have h' := h.ext hb
  refine ⟨h'.below, fun x hx => ?_, List.Pairwise.cons (fun y hy => ?_) h.apart⟩
  · rcases List.mem_cons.1 hx with rfl | hx
    · exact hk
    · exact h'.holds x hx
  · cases hb : k.blk with
    | none => exact Or.inl hb
    | some g =>
      refine Or.inr ?_
      rw [hb]
      intro he
      have h1 := hn g hb
      have h2 := (Ck.lt (h.holds y hy) g he.symm).2
      omega

theorem KOk.drop {w0 : World} {K : List Ck} {w : World} {k : Ck} (h : KOk w0 (k :: K) w) : KOk w0 K w :=
  ⟨h.below, fun x hx => h.holds x (List.mem_cons_of_mem _ hx), (List.pairwise_cons.1 h.apart).2⟩

/-- 'k' is one of the chunks, and 'K'' are the others with 'k'' in its place (first). -/
inductive Pick : List Ck → Ck → List Ck → Prop where
  | here (k : Ck) (K : List Ck) : Pick (k :: K) k K
  | there (x k : Ck) (K K' : List Ck) (h : Pick K k K') : Pick (x :: K) k (x :: K')

theorem Pick.mem {K K' : List Ck} {k : Ck} (h : Pick K k K') : k ∈ K := by
  induction h with
  | here k K => exact List.mem_cons_self
  | there x k K K' _ ih => exact List.mem_cons_of_mem _ ih

theorem Pick.perm {K K' : List Ck} {k : Ck} (h : Pick K k K') : K.Perm (k :: K') := by
  induction h with
  | here k K => exact List.Perm.refl _
  | there x k K K' _ ih => exact (List.Perm.cons x ih).trans (List.Perm.swap k x K')

theorem Ck.apart_symm {a b : Ck} (h : a.apart b) : b.apart a := by
  rcases h with h | h
  · by_cases hb : b.blk = none
    · exact Or.inl hb
    · exact Or.inr (fun e => hb (by rw [e, h]))
  · exact Or.inr (fun e => h e.symm)

theorem KOk.perm {w0 : World} {K K' : List Ck} {w : World} (h : KOk w0 K w) (hp : K.Perm K') : KOk w0 K' w :=
  ⟨h.below, fun k hk => h.holds k (hp.mem_iff.2 hk), (hp.pairwise_iff (fun hab => Ck.apart_symm hab)).1 h.apart⟩

theorem KOk.pick {w0 : World} {K K' : List Ck} {w : World} {k : Ck} (h : KOk w0 K w) (hp : Pick K k K') : KOk w0 (k :: K') w := h.perm hp.perm

/-- One block is written, which held the first chunk; all else is as it was. -/
theorem KOk.turn {w0 : World} {K : List Ck} {w w' : World} {k k' : Ck} {g : Nat} (h : KOk w0 (k :: K) w) (hg : k.blk = some g) (hw : w.grownBy w' (some g)) (hk : k'.holds w0.heap.size w')
    (hn : k'.blk = some g ∨ ∀ g', k'.blk = some g' → w.heap.size ≤ g') : KOk w0 (k' :: K) w' := by
  have hl := Ck.lt (h.holds k List.mem_cons_self) g hg
  obtain ⟨hp1, hp2⟩ := List.pairwise_cons.1 h.apart
  have hne : ∀ y, y ∈ K → y.blk ≠ some g := fun y hy => by
    rcases hp1 y hy with e | e
    · rw [hg] at e; cases e
    · rw [hg] at e; exact fun e' => e e'.symm
  refine ⟨h.below.grown hw h.below.size (fun k hk => by injection hk with hk; subst hk; exact hl.1), fun x hx => ?_, List.Pairwise.cons (fun y hy => ?_) hp2⟩
  · rcases List.mem_cons.1 hx with rfl | hx
    · exact hk
    · refine Ck.keep (h.holds x (List.mem_cons_of_mem _ hx)) fun g' hg' => hw.block g' (Ck.lt (h.holds x (List.mem_cons_of_mem _ hx)) g' hg').2 (fun e => ?_)
      exact hne x hx (by rw [hg', e])
  · cases hb : k'.blk with
    | none => exact Or.inl hb
    | some g' =>
      refine Or.inr ?_
      rw [hb]
      intro he
      rcases hn with hn | hn
      · rw [hb] at hn
        injection hn with hn
        subst hn
        exact hne y hy he.symm
      · have h1 := hn g' hb
        have h2 := (Ck.lt (h.holds y (List.mem_cons_of_mem _ hy)) g' he.symm).2
        omega

/-- The first chunk was a nil row: whatever comes in its place lies in a new block. -/
theorem KOk.turn_nil {w0 : World} {K : List Ck} {w w' : World} {k k' : Ck} (h : KOk w0 (k :: K) w) (hb : Below w.heap.size w w') (hk : k'.holds w0.heap.size w')
    (hn : ∀ g', k'.blk = some g' → w.heap.size ≤ g') : KOk w0 (k' :: K) w' := h.drop.push hb k' hk hn

end E
end Go.Proofs.YtpiiapoafmnhhaaGreat
