/- Cores, threes, what is asked of a graph (plain). -/
import Derived.Test.YtjdagbicjhmeeaaQb
namespace Go.Proofs.Ytjdagbicjhmeeaa
namespace E
open Go
set_option linter.unusedVariables false
/-! ### Cores -/
def stays (left : List Bool) (row : List Nat) : Nat := row.countP (fun j => left.getD j false)
def peelS (adj : List (List Nat)) (k : Nat) (s : List Bool × Bool) (i : Nat) : List Bool × Bool :=
  if s.1.getD i false = true ∧ stays s.1 (adj.getD i []) < k then (s.1.set i false, true) else s
def peelR (adj : List (List Nat)) (k : Nat) (left : List Bool) : List Bool × Bool := (List.range left.length).foldl (peelS adj k) (left, false)
def trues (left : List Bool) : Nat := left.countP id
def peelG (adj : List (List Nat)) (k : Nat) : Nat → List Bool → List Bool
  | 0, left => left
  | f + 1, left => if (peelR adj k left).2 = true then peelG adj k f (peelR adj k left).1 else (peelR adj k left).1
def peel (adj : List (List Nat)) (k : Nat) (left : List Bool) : List Bool := peelG adj k (trues left + 1) left
theorem trues_set : ∀ {left : List Bool} {i : Nat}, left.getD i false = true → trues (left.set i false) + 1 = trues left
  | [], i, h => by simp at h
  | b :: left, 0, h => by
    simp at h; subst h
    simp [trues]
  | b :: left, i + 1, h => by
    have := trues_set (left := left) (i := i) (by simpa using h)
    simp only [trues, List.set_cons_succ, List.countP_cons] at this ⊢
    omega
/-- One round: what is left is less or as it was; it turned just if it is less. -/
theorem peelS_len {adj : List (List Nat)} {k : Nat} {s : List Bool × Bool} {i : Nat} : (peelS adj k s i).1.length = s.1.length := by
  unfold peelS; split <;> simp
theorem peelS_tr {adj : List (List Nat)} {k : Nat} {s : List Bool × Bool} {i : Nat} {m : Nat} (h : trues s.1 ≤ m ∧ (s.2 = true → trues s.1 < m)) : trues (peelS adj k s i).1 ≤ m ∧ ((peelS adj k s i).2 = true → trues (peelS adj k s i).1 < m) := by
  unfold peelS
  split
  · rename_i hh
    have := trues_set hh.1
    simp only []
    omega
  · exact h
theorem peelF_len {adj : List (List Nat)} {k : Nat} : ∀ (is : List Nat) (s : List Bool × Bool), (is.foldl (peelS adj k) s).1.length = s.1.length
  | [], _ => rfl
  | i :: is, s => by rw [List.foldl_cons, peelF_len is, peelS_len]
theorem peelF_tr {adj : List (List Nat)} {k m : Nat} : ∀ (is : List Nat) (s : List Bool × Bool), (trues s.1 ≤ m ∧ (s.2 = true → trues s.1 < m)) → trues (is.foldl (peelS adj k) s).1 ≤ m ∧ ((is.foldl (peelS adj k) s).2 = true → trues (is.foldl (peelS adj k) s).1 < m)
  | [], s, h => h
  | i :: is, s, h => by rw [List.foldl_cons]; exact peelF_tr is _ (peelS_tr h)
theorem peelR_len {adj : List (List Nat)} {k : Nat} {left : List Bool} : (peelR adj k left).1.length = left.length := peelF_len _ _
theorem peelR_tr {adj : List (List Nat)} {k : Nat} {left : List Bool} : trues (peelR adj k left).1 ≤ trues left ∧ ((peelR adj k left).2 = true → trues (peelR adj k left).1 < trues left) := peelF_tr _ _ ⟨Nat.le_refl _, fun h => by cases h⟩
theorem peelG_more {adj : List (List Nat)} {k : Nat} : ∀ (f f' : Nat) (left : List Bool), trues left < f → trues left < f' → peelG adj k f left = peelG adj k f' left
  | 0, _, _, h, _ => absurd h (by omega)
  | _, 0, _, _, h => absurd h (by omega)
  | f + 1, f' + 1, left, h, h' => by
    simp only [peelG]
    split
    · rename_i ht
      have := peelR_tr.2 ht
      exact peelG_more f f' _ (by omega) (by omega)
    · rfl
theorem peel_step {adj : List (List Nat)} {k : Nat} {left : List Bool} : peel adj k left = if (peelR adj k left).2 = true then peel adj k (peelR adj k left).1 else (peelR adj k left).1 := by
  unfold peel
  show (if _ then _ else _) = _
  split
  · rename_i ht
    have := peelR_tr.2 ht
    exact peelG_more _ _ _ (by omega) (by omega)
  · rfl
/-- What holds of what is left behind each step holds behind all of them. -/
theorem peel_inv {adj : List (List Nat)} {k : Nat} (I : List Bool → Prop) (hI : ∀ s i, I s.1 → I (peelS adj k s i).1) : ∀ (m : Nat) (left : List Bool), trues left ≤ m → I left → I (peel adj k left)
  | m, left, hm, h => by
    have hF : ∀ (is : List Nat) (s : List Bool × Bool), I s.1 → I (is.foldl (peelS adj k) s).1 := by
      intro is
      induction is with
      | nil => exact fun s h => h
      | cons i is ih => intro s h; rw [List.foldl_cons]; exact ih _ (hI s i h)
    rw [peel_step]
    split
    · rename_i ht
      have := peelR_tr.2 ht
      cases m with
      | zero => omega
      | succ m => exact peel_inv I hI m _ (by omega) (hF _ _ h)
    · exact hF _ _ h
theorem peel_len {adj : List (List Nat)} {k : Nat} {left : List Bool} : (peel adj k left).length = left.length :=
  peel_inv (fun l => l.length = left.length) (fun s i h => by rw [peelS_len]; exact h) _ left (Nat.le_refl _) rfl
/-- Behind the peeling each that is left has enough that are left. -/
theorem peelF_id {adj : List (List Nat)} {k : Nat} : ∀ (is : List Nat) (s : List Bool × Bool), (is.foldl (peelS adj k) s).2 = false → (is.foldl (peelS adj k) s) = s ∧ ∀ i ∈ is, ¬ (s.1.getD i false = true ∧ stays s.1 (adj.getD i []) < k)
  | [], s, _ => ⟨rfl, by simp⟩
  | i :: is, s, h => by
    rw [List.foldl_cons] at h
    have hs : ∀ (is : List Nat) (s : List Bool × Bool), s.2 = true → (is.foldl (peelS adj k) s).2 = true := by
      intro is
      induction is with
      | nil => exact fun s h => h
      | cons i is ih =>
        intro s h
        rw [List.foldl_cons]
        refine ih _ ?_
        unfold peelS; split
        · rfl
        · exact h
    by_cases hh : s.1.getD i false = true ∧ stays s.1 (adj.getD i []) < k
    · have e : (peelS adj k s i).2 = true := by unfold peelS; rw [if_pos hh]
      rw [hs is _ e] at h; cases h
    · have e : peelS adj k s i = s := by unfold peelS; rw [if_neg hh]
      rw [e] at h
      obtain ⟨a, b⟩ := peelF_id is s h
      rw [List.foldl_cons, e]
      refine ⟨a, fun j hj => ?_⟩
      rcases List.mem_cons.1 hj with rfl | hj
      · exact hh
      · exact b j hj
theorem peel_fix {adj : List (List Nat)} {k : Nat} : ∀ (m : Nat) (left : List Bool), trues left ≤ m → ∀ i, i < left.length → (peel adj k left).getD i false = true → k ≤ stays (peel adj k left) (adj.getD i [])
  | m, left, hm, i, hi, ht => by
    by_cases hr : (peelR adj k left).2 = true
    · have hp : peel adj k left = peel adj k (peelR adj k left).1 := by rw [peel_step, if_pos hr]
      have := peelR_tr.2 hr
      rw [hp] at ht ⊢
      cases m with
      | zero => omega
      | succ m => exact peel_fix m _ (by omega) i (by rw [peelR_len]; exact hi) ht
    · have hp : peel adj k left = (peelR adj k left).1 := by rw [peel_step, if_neg hr]
      have hf := peelF_id (adj := adj) (k := k) (List.range left.length) (left, false) (by simpa [peelR] using hr)
      have e : (peelR adj k left).1 = left := by unfold peelR; rw [hf.1]
      rw [hp, e] at ht ⊢
      have := hf.2 i (List.mem_range.2 hi)
      simp only [ht, true_and] at this
      omega
theorem stays_le {left : List Bool} {row : List Nat} : stays left row ≤ row.length := List.countP_le_length
theorem trues_zero {left : List Bool} (h : trues left = 0) (i : Nat) : left.getD i false = false := by
  cases hb : left.getD i false with
  | false => rfl
  | true => have := trues_set hb; omega
/-- Where nothing is left nothing comes. -/
theorem peel_none {adj : List (List Nat)} {k : Nat} {left : List Bool} (h : trues left = 0) : peel adj k left = left := by
  have hF : ∀ (is : List Nat), is.foldl (peelS adj k) (left, false) = (left, false) := by
    intro is
    induction is with
    | nil => rfl
    | cons i is ih =>
      rw [List.foldl_cons]
      have : peelS adj k (left, false) i = (left, false) := by
        unfold peelS
        rw [if_neg (by simp only [trues_zero h i]; simp)]
      rw [this, ih]
  rw [peel_step]
  unfold peelR
  rw [hF]
  simp
def coreM (left : List Bool) (out : List Int) (k : Nat) : List Int := (List.range out.length).map (fun i => if left.getD i false = true then (k : Int) else out.getD i 0)
/-- Rounds from k on (f of them). -/
def coreG (adj : List (List Nat)) : Nat → Nat → List Bool → List Int → List Int
  | 0, _, _, out => out
  | f + 1, k, left, out => coreG adj f (k + 1) (peel adj k left) (coreM (peel adj k left) out k)
def coreL (adj : List (List Nat)) (n : Nat) : List Int := coreG adj (n - 1) 1 (List.replicate n true) (List.replicate n 0)
theorem coreM_none {left : List Bool} {out : List Int} {k : Nat} (h : trues left = 0) : coreM left out k = out := by
  apply List.ext_getElem
  · simp [coreM]
  · intro i h1 h2
    simp only [coreM, List.getElem_map, List.getElem_range, trues_zero h]
    simp [List.getD_eq_getElem?_getD, h2]
theorem coreG_none {adj : List (List Nat)} : ∀ (f k : Nat) (left : List Bool) (out : List Int), trues left = 0 → coreG adj f k left out = out
  | 0, _, _, _, _ => rfl
  | f + 1, k, left, out, h => by
    simp only [coreG]
    rw [peel_none h, coreM_none h]
    exact coreG_none f (k + 1) left out h
/-- Where as many rounds as nodes are over nothing is left. -/
theorem peel_n {n : Nat} {adj : List (List Nat)} (ha : AOk n adj) {k : Nat} (hk : n ≤ k) {left : List Bool} (hl : left.length = n) : trues (peel adj k left) = 0 := by
  rcases Nat.eq_zero_or_pos (trues (peel adj k left)) with h | h
  · exact h
  · obtain ⟨b, hb, hbt⟩ := List.countP_pos_iff.1 h
    obtain ⟨i, hi⟩ := List.getElem?_of_mem hb
    simp only [id] at hbt
    subst hbt
    have hi' : i < n := by rw [← hl, ← peel_len (adj := adj) (k := k)]; exact (List.getElem?_eq_some_iff.1 hi).1
    have h1 := peel_fix (adj := adj) (k := k) _ left (Nat.le_refl _) i (by omega) (by simp [List.getD_eq_getElem?_getD, hi])
    obtain ⟨row, hr⟩ : ∃ row, adj[i]? = some row := ⟨_, List.getElem?_eq_getElem (by rw [ha.1]; exact hi')⟩
    have h2 := ha.2 i row hr
    have h3 := row_len h2.1 h2.2 hi'
    have h4 : adj.getD i [] = row := by simp [List.getD_eq_getElem?_getD, hr]
    rw [h4] at h1
    have := stays_le (left := peel adj k left) (row := row)
    omega
/-! ### Threes -/
/-- As the program counts them: with a first, those above it among its row, and those above that one. -/
def three1 (adj : List (List Nat)) (a b : Nat) : Nat := (adj.getD b []).countP (fun c => decide (b < c) && decide (c ∈ adj.getD a []))
def threeR (adj : List (List Nat)) (a : Nat) (row : List Nat) : Nat := (row.map (fun b => if b < a then 0 else three1 adj a b)).sum
def threesL (adj : List (List Nat)) : Nat := ((List.range adj.length).map (fun a => threeR adj a (adj.getD a []))).sum
/-- As the reference counts them: two of the row, the second behind the first. -/
def pairs1 (adj : List (List Nat)) (a : Nat) : List Nat → Nat
  | [] => 0
  | x :: row => (if a < x then row.countP (fun y => decide (y ∈ adj.getD x [])) else 0) + pairs1 adj a row
theorem countP_comm : ∀ (xs ys : List Nat), xs.Nodup → ys.Nodup → xs.countP (fun x => decide (x ∈ ys)) = ys.countP (fun y => decide (y ∈ xs))
  | [], ys, _, _ => by simp
  | x :: xs, ys, hx, hy => by
    obtain ⟨h1, h2⟩ := List.nodup_cons.1 hx
    have ih := countP_comm xs ys h2 hy
    rw [List.countP_cons, ih]
    have e : ys.countP (fun y => decide (y ∈ x :: xs)) = ys.countP (fun y => decide (y ∈ xs)) + ys.countP (fun y => decide (y = x)) := by
      clear ih hy
      induction ys with
      | nil => rfl
      | cons y ys ih =>
        simp only [List.countP_cons, ih]
        by_cases h : y = x
        · subst h; simp [h1]; omega
        · simp [h]; omega
    rw [e]
    congr 1
    have hc : ys.countP (fun y => decide (y = x)) = ys.count x := by
      unfold List.count
      apply List.countP_congr
      intro y _; simp
    rw [hc]
    by_cases hm : x ∈ ys
    · simp [hm, hy.count]
    · simp [hm, List.count_eq_zero_of_not_mem hm]
theorem pairs_eq {adj : List (List Nat)} {a : Nat} {all : List Nat} : ∀ (pre row : List Nat), pre ++ row = all → all.Pairwise (· < ·) → (∀ x ∈ all, (adj.getD x []).Pairwise (· < ·)) → adj.getD a [] = all → a ∉ all → pairs1 adj a row = threeR adj a row
  | pre, [], _, _, _, _, _ => rfl
  | pre, x :: row, he, hp, hs, ha, hna => by
    have ih := pairs_eq (adj := adj) (a := a) (pre ++ [x]) row (by simp [he]) hp hs ha hna
    have hxm : x ∈ all := by rw [← he]; simp
    have hxa : x ≠ a := fun e => hna (e ▸ hxm)
    unfold threeR
    simp only [pairs1, List.map_cons, List.sum_cons]
    rw [ih]
    unfold threeR
    congr 1
    by_cases h : a < x
    · rw [if_pos h, if_neg (by omega)]
      unfold three1
      have hsx := hs x hxm
      have hp' : (x :: row).Pairwise (· < ·) := by
        rw [← he] at hp
        exact (List.pairwise_append.1 hp).2.1
      obtain ⟨hx1, hx2⟩ := List.pairwise_cons.1 hp'
      have hpre : ∀ y ∈ pre, y < x := fun y hy => by
        rw [← he] at hp
        exact (List.pairwise_append.1 hp).2.2 y hy x List.mem_cons_self
      have e1 : (adj.getD x []).countP (fun c => decide (x < c) && decide (c ∈ adj.getD a [])) = (adj.getD x []).countP (fun c => decide (c ∈ row)) := by
        apply List.countP_congr
        intro c _
        rw [ha, ← he]
        simp only [Bool.and_eq_true, decide_eq_true_eq, List.mem_append, List.mem_cons]
        constructor
        · rintro ⟨h1, h2 | h2 | h2⟩
          · have := hpre c h2; omega
          · omega
          · exact h2
        · intro h1
          exact ⟨hx1 c h1, Or.inr (Or.inr h1)⟩
      rw [e1]
      exact countP_comm _ _ (hx2.imp (fun h e => by omega)) (hsx.imp (fun h e => by omega))
    · rw [if_neg h, if_pos (by omega)]
theorem threes_eq {n : Nat} {adj : List (List Nat)} (ha : AOk n adj) {a : Nat} {row : List Nat} (hr : adj[a]? = some row) : pairs1 adj a row = threeR adj a row := by
  have h := ha.2 a row hr
  have hg : adj.getD a [] = row := by simp [List.getD_eq_getElem?_getD, hr]
  refine pairs_eq (all := row) [] row rfl h.2 (fun x hx => ?_) hg (fun hm => (h.1 a hm).2 rfl)
  obtain ⟨r, hr'⟩ : ∃ r, adj[x]? = some r := ⟨_, List.getElem?_eq_getElem (by rw [ha.1]; exact (h.1 x hx).1)⟩
  rw [List.getD_eq_getElem?_getD, hr']
  exact (ha.2 x r hr').2
/-! ### What is asked of a graph -/
def qok (q : Qu) : Bool := if q.k = 1 ∨ q.k = 2 then nok q.n else if q.k = 3 ∨ q.k = 4 then decide (q.n = ⟨0, 0⟩) else false
/-- Of a right graph, and what can be asked. -/
def askG (g : Gr) (q : Qu) : List Int :=
  if q.k = 1 then (nearL g.es q.n).map cd
  else if q.k = 2 then distL g q.n
  else if q.k = 3 then coreL (adjL g) g.ns.length
  else [(threesL (adjL g) : Int)]
def askL (g : Gr) (q : Qu) : List Int := if g.ok ∧ qok q = true then askG g q else []
theorem coreG_len {adj : List (List Nat)} : ∀ (f k : Nat) (left : List Bool) (out : List Int), (coreG adj f k left out).length = out.length
  | 0, _, _, _ => rfl
  | f + 1, k, left, out => by
    simp only [coreG]
    rw [coreG_len f]
    simp [coreM]
theorem coreL_len {adj : List (List Nat)} {n : Nat} : (coreL adj n).length = n := by unfold coreL; rw [coreG_len]; simp
end E
end Go.Proofs.Ytjdagbicjhmeeaa
