/- Worlds, and what can not be seen (plain). -/
import Derived.Test.YtjdagbicjhmeeaaQf
namespace Go.Proofs.Ytjdagbicjhmeeaa
namespace E
open Go
set_option linter.unusedVariables false
/-! ### Worlds -/
structure Td where
  c : Int
  a : List Int
  r : Int
  deriving DecidableEq
def Wd.g (d : Wd) : Gr := ⟨d.ns, d.es⟩
def Wd.put (d : Wd) (g : Gr) : Wd := { d with ns := g.ns, es := g.es }
abbrev wd0 : Wd := ⟨[], [], [], [], []⟩
def newW (ps : List Pe) : Wd := if PsOk ps then ⟨ps, [], [], ps.map (fun p => ⟨p.z, []⟩), ps.map (fun p => p.q)⟩ else wd0
def peD : Pe := ⟨0, 0, 0⟩
def plD : Pl := ⟨0, []⟩
def Wd.pe (d : Wd) (i : Nat) : Pe := d.ps.getD i peD
def Wd.pl (d : Wd) (i : Nat) : Pl := d.qs.getD i plD
def Wd.lf (d : Wd) (i : Nat) : Int := d.ls.getD i 0
def readP (d : Wd) (i : Nat) (q : Qu) : Pl × Int := allP (d.pl i) (pagesL (view d.g (d.pe i).c) q)
/-- What is done in a right world by one of the people. -/
def doI (d : Wd) (i : Nat) (e : Ev) : Wd × Td :=
  if e.k = 1 then
    if olab e.o < 0 then (d, ⟨1, [], 0⟩)
    else if und (olab e.o) (d.pe i).c = false then (d, ⟨5, [], 0⟩)
    else (d.put (doG d.g e.o).1, ⟨(doG d.g e.o).2, [], 0⟩)
  else if e.k = 2 then
    if qok e.q = false then (d, ⟨1, [], 0⟩)
    else if d.lf i < (readP d i e.q).2 then ({ d with ls := d.ls.set i 0 }, ⟨6, [], d.lf i⟩)
    else ({ d with qs := d.qs.set i (readP d i e.q).1, ls := d.ls.set i (d.lf i - (readP d i e.q).2) }, ⟨0, askG (view d.g (d.pe i).c) e.q, (readP d i e.q).2⟩)
  else if e.k = 3 then ({ d with ls := d.ls.set i (d.pe i).q }, ⟨0, [], 0⟩)
  else (d, ⟨1, [], 0⟩)
def doW (d : Wd) (e : Ev) : Wd × Td := if e.w < 0 ∨ (d.ps.length : Int) ≤ e.w then (d, ⟨1, [], 0⟩) else doI d e.w.toNat e
noncomputable def worldDo (d : Wd) (e : Ev) : Wd × Td := @ite _ (WOk d) (Classical.propDecidable _) (doW d e) (wd0, ⟨1, [], 0⟩)
theorem getD_some {α : Type} {xs : List α} {i : Nat} {x d : α} (h : xs[i]? = some x) : xs.getD i d = x := by simp [List.getD_eq_getElem?_getD, h]
theorem WOk.ok {d : Wd} (h : WOk d) : d.g.ok := Gr.ok_iff.2 h.2.1
structure Per (d : Wd) (i : Nat) : Prop where
  p : d.ps[i]? = some (d.pe i)
  q : d.qs[i]? = some (d.pl i)
  l : d.ls[i]? = some (d.lf i)
  pok : pok (d.pe i) = true
  qok : PlOk (d.pl i)
  z : (d.pl i).z = (d.pe i).z
  lo : 0 ≤ d.lf i
  hi : d.lf i ≤ (d.pe i).q
theorem WOk.per {d : Wd} (h : WOk d) {i : Nat} (hi : i < d.ps.length) : Per d i := by
  obtain ⟨h1, h2, h3, h4, h5⟩ := h
  obtain ⟨p, hp⟩ : ∃ p, d.ps[i]? = some p := ⟨_, List.getElem?_eq_getElem hi⟩
  obtain ⟨q, hq⟩ : ∃ q, d.qs[i]? = some q := ⟨_, List.getElem?_eq_getElem (by omega)⟩
  obtain ⟨l, hl⟩ : ∃ l, d.ls[i]? = some l := ⟨_, List.getElem?_eq_getElem (by omega)⟩
  have := h5 i p q l hp hq hl
  have e1 : d.pe i = p := getD_some hp
  have e2 : d.pl i = q := getD_some hq
  have e3 : d.lf i = l := getD_some hl
  exact ⟨by rw [e1]; exact hp, by rw [e2]; exact hq, by rw [e3]; exact hl, by rw [e1]; exact h1.1 p (List.mem_of_getElem? hp), by rw [e2]; exact this.1, by rw [e1, e2]; exact this.2.1, by rw [e3]; exact this.2.2.1, by rw [e1, e3]; exact this.2.2.2⟩
theorem set_get {α : Type} {xs : List α} {i j : Nat} {x y : α} (h : (xs.set i x)[j]? = some y) : (i = j ∧ y = x) ∨ (i ≠ j ∧ xs[j]? = some y) := by
  rw [List.getElem?_set] at h
  split at h
  · rename_i e
    split at h
    · injection h with h; exact Or.inl ⟨e, h.symm⟩
    · cases h
  · rename_i e; exact Or.inr ⟨e, h⟩
/-- A right world in which what one of the people has is turned to what is right. -/
theorem WOk.set {d : Wd} (h : WOk d) {i : Nat} (hi : i < d.ps.length) {q : Pl} {l : Int} (hq : PlOk q) (hz : q.z = (d.pe i).z) (hl : 0 ≤ l ∧ l ≤ (d.pe i).q) : WOk { d with qs := d.qs.set i q, ls := d.ls.set i l } := by
  have hp := (h.per hi).p
  obtain ⟨h1, h2, h3, h4, h5⟩ := h
  refine ⟨h1, h2, by simpa using h3, by simpa using h4, fun j p' q' l' hp' hq' hl' => ?_⟩
  simp only at hp' hq' hl'
  rcases set_get hq' with ⟨e, eq⟩ | ⟨e, hq'⟩
  · rcases set_get hl' with ⟨e', el⟩ | ⟨e', _⟩
    · subst e
      rw [hp] at hp'; injection hp' with hp'
      rw [eq, el, ← hp']
      exact ⟨hq, hz, hl⟩
    · exact absurd e e'
  · rcases set_get hl' with ⟨e', _⟩ | ⟨_, hl'⟩
    · exact absurd e' e
    · exact h5 j p' q' l' hp' hq' hl'
theorem set_same {α : Type} {xs : List α} {i : Nat} {x : α} (h : xs[i]? = some x) : xs.set i x = xs := by
  apply List.ext_getElem?
  intro j
  rw [List.getElem?_set]
  split
  · rename_i e; subst e
    rw [if_pos (List.getElem?_eq_some_iff.1 h).1, h]
  · rfl
theorem WOk.setl {d : Wd} (h : WOk d) {i : Nat} (hi : i < d.ps.length) {l : Int} (hl : 0 ≤ l ∧ l ≤ (d.pe i).q) : WOk { d with ls := d.ls.set i l } := by
  have hp := h.per hi
  have := h.set hi hp.qok hp.z hl
  rwa [set_same hp.q] at this
theorem readP_ok {d : Wd} (h : WOk d) {i : Nat} (hi : i < d.ps.length) (q : Qu) : PlOk (readP d i q).1 ∧ (readP d i q).1.z = (d.pe i).z ∧ 0 ≤ (readP d i q).2 := by
  have hp := h.per hi
  refine ⟨hp.qok.all (fun x hx => (pages_in h.ok.view hx).1), by rw [← hp.z]; exact allP_z _ _, (allP_n _ _).1⟩
theorem WOk.put {d : Wd} (h : WOk d) {g : Gr} (hg : g.ok) : WOk (d.put g) := ⟨h.1, Gr.ok_iff.1 hg, h.2.2.1, h.2.2.2.1, h.2.2.2.2⟩
theorem WOk.doI {d : Wd} (h : WOk d) {i : Nat} (hi : i < d.ps.length) (e : Ev) : WOk (doI d i e).1 := by
  have hp := h.per hi
  unfold E.doI
  split
  · split
    · exact h
    · split
      · exact h
      · exact h.put h.ok.doG
  · split
    · split
      · exact h
      · obtain ⟨a, b, c⟩ := readP_ok h hi e.q
        split
        · exact h.setl hi ⟨Int.le_refl _, Int.le_trans hp.lo hp.hi⟩
        · rename_i hn
          exact h.set hi a b ⟨by omega, by have := hp.hi; omega⟩
    · split
      · exact h.setl hi ⟨Int.le_trans hp.lo hp.hi, Int.le_refl _⟩
      · exact h
theorem WOk.doW {d : Wd} (h : WOk d) (e : Ev) : WOk (doW d e).1 := by
  unfold E.doW
  split
  · exact h
  · rename_i hn
    exact h.doI (by omega) e
theorem wok_new {ps : List Pe} (h : PsOk ps) : WOk (newW ps) := by
  unfold newW
  rw [if_pos h]
  refine ⟨h, gok_iff.2 ⟨⟨by simp, by simp, by simp⟩, ⟨by simp, by simp, by simp⟩⟩, by simp, by simp, fun i p q l hp hq hl => ?_⟩
  simp only [List.getElem?_map, Option.map_eq_some_iff] at hq hl
  obtain ⟨p1, hp1, rfl⟩ := hq
  obtain ⟨p2, hp2, rfl⟩ := hl
  rw [hp] at hp1 hp2
  injection hp1 with hp1; injection hp2 with hp2
  subst hp1; subst hp2
  have := h.1 _ (List.mem_of_getElem? hp)
  simp only [pok, Bool.and_eq_true, decide_eq_true_eq] at this
  exact ⟨⟨⟨this.1.2.1, this.1.2.2, by simp; exact this.1.2.1⟩, by simp, by simp⟩, rfl, this.2.1, Int.le_refl _⟩
theorem wok_zero : WOk wd0 := by
  have := wok_new (ps := []) ⟨by simp, by simp⟩
  simpa [newW] using this
theorem wok_newW (ps : List Pe) : WOk (newW ps) := by
  by_cases h : PsOk ps
  · exact wok_new h
  · unfold newW; rw [if_neg h]; exact wok_zero
/-! ### Plays -/
def runS (s : Wd × List Td) (e : Ev) : Wd × List Td := ((doW s.1 e).1, s.2 ++ [(doW s.1 e).2])
def runW (d : Wd) (evs : List Ev) : Wd × List Td := evs.foldl runS (d, [])
theorem runW_step {d : Wd} {evs : List Ev} {k : Nat} {e : Ev} (h : evs[k]? = some e) : runW d (evs.take (k + 1)) = runS (runW d (evs.take k)) e := foldl_take_succ _ _ h
theorem runF_ok : ∀ (evs : List Ev) (s : Wd × List Td), WOk s.1 → WOk (evs.foldl runS s).1
  | [], _, h => h
  | e :: evs, s, h => by rw [List.foldl_cons]; exact runF_ok evs _ (h.doW e)
theorem runW_ok {d : Wd} (h : WOk d) (evs : List Ev) : WOk (runW d evs).1 := runF_ok evs _ h
theorem runF_len : ∀ (evs : List Ev) (s : Wd × List Td), (evs.foldl runS s).2.length = s.2.length + evs.length
  | [], s => by simp
  | e :: evs, s => by rw [List.foldl_cons, runF_len evs]; simp [runS]; omega
theorem runW_len (d : Wd) (evs : List Ev) : (runW d evs).2.length = evs.length := by unfold runW; rw [runF_len]; simp
theorem runF_app : ∀ (evs : List Ev) (d : Wd) (t : List Td), evs.foldl runS (d, t) = ((runW d evs).1, t ++ (runW d evs).2)
  | [], d, t => by simp [runW]
  | e :: evs, d, t => by
    have h1 := runF_app evs (doW d e).1 (t ++ [(doW d e).2])
    have h2 := runF_app evs (doW d e).1 [(doW d e).2]
    unfold runW
    simp only [List.foldl_cons, runS, List.nil_append] at h1 h2 ⊢
    rw [h1, h2]
    simp
theorem runW_cons (d : Wd) (e : Ev) (evs : List Ev) : runW d (e :: evs) = ((runW (doW d e).1 evs).1, (doW d e).2 :: (runW (doW d e).1 evs).2) := by
  have := runF_app evs (doW d e).1 [(doW d e).2]
  unfold runW at this ⊢
  rw [List.foldl_cons]
  simp only [runS, List.nil_append]
  rw [this]
  simp
theorem runW_append (d : Wd) (a b : List Ev) : runW d (a ++ b) = ((runW (runW d a).1 b).1, (runW d a).2 ++ (runW (runW d a).1 b).2) := by
  unfold runW
  rw [List.foldl_append]
  exact runF_app b _ _
def playW (ps : List Pe) (evs : List Ev) : Wd × List Td := if PsOk ps ∧ evs.length ≤ 80 then runW (newW ps) evs else (wd0, [])
def lowP (ps : List Pe) (c : Int) (e : Ev) : Bool := decide (0 ≤ e.w) && decide (e.w < ps.length) && lun (ps.getD e.w.toNat peD).c c
def seen2 (ps : List Pe) (c : Int) (l : List (Ev × Td)) : List Td := (l.filter (fun x => lowP ps c x.1)).map (·.2)
def seenW (ps : List Pe) (evs : List Ev) (c : Int) : List Td := seen2 ps c (evs.zip (playW ps evs).2)
def keepE (ps : List Pe) (c : Int) (e : Ev) : Bool := lowP ps c e || (decide (e.k = 1) && lun (olab e.o) c)
def purgeW (ps : List Pe) (evs : List Ev) (c : Int) : List Ev := evs.filter (keepE ps c)
/-! ### What can not be seen bears on nothing -/
structure Rl (c : Int) (d d' : Wd) : Prop where
  ok : WOk d
  ok' : WOk d'
  ps : d'.ps = d.ps
  vw : view d.g c = view d'.g c
  lo : ∀ i, i < d.ps.length → lun (d.pe i).c c = true → d.pl i = d'.pl i ∧ d.lf i = d'.lf i
theorem Rl.refl {c : Int} {d : Wd} (h : WOk d) : Rl c d d := ⟨h, h, rfl, rfl, fun _ _ _ => ⟨rfl, rfl⟩⟩
theorem olab_neg {o : Opn} (h : olab o < 0) (c : Int) : lun (olab o) c = false := by
  cases hl : lun (olab o) c with
  | false => rfl
  | true => have := lok_iff.1 (lun_iff.1 hl).1; omega
theorem pl_set {d : Wd} {i j : Nat} {q : Pl} {l : Int} (hij : i ≠ j) : ({ d with qs := d.qs.set i q, ls := d.ls.set i l } : Wd).pl j = d.pl j ∧ ({ d with qs := d.qs.set i q, ls := d.ls.set i l } : Wd).lf j = d.lf j := by
  simp [Wd.pl, Wd.lf, List.getD_eq_getElem?_getD, hij]
theorem pl_setl {d : Wd} {i j : Nat} {l : Int} (hij : i ≠ j) : ({ d with ls := d.ls.set i l } : Wd).lf j = d.lf j := by
  simp [Wd.lf, List.getD_eq_getElem?_getD, hij]
/-- Of those who are not low, and what is not put under the label, the low ones note nothing. -/
theorem Rl.skip {c : Int} {d d' : Wd} {e : Ev} (h : Rl c d d') (hk : keepE d.ps c e = false) : Rl c (doW d e).1 d' := by
  simp only [keepE, Bool.or_eq_false_iff] at hk
  obtain ⟨hk1, hk2⟩ := hk
  unfold doW
  split
  · exact h
  · rename_i hw
    have hi : e.w.toNat < d.ps.length := by omega
    have hlow : lun (d.pe e.w.toNat).c c = false := by
      simp only [lowP, Bool.and_eq_false_iff, decide_eq_false_iff_not] at hk1
      rcases hk1 with (h1 | h1) | h1
      · omega
      · omega
      · exact h1
    have hne : ∀ j, lun (d.pe j).c c = true → e.w.toNat ≠ j := fun j hj e' => by subst e'; rw [hlow] at hj; cases hj
    have hok := h.ok.doI hi e
    unfold doI at hok ⊢
    by_cases k1 : e.k = 1
    · simp only [k1, decide_true, Bool.true_and] at hk2
      simp only [k1, if_true] at hok ⊢
      split
      · exact h
      · split
        · exact h
        · rename_i h1 h2
          rw [if_neg h1, if_neg h2] at hok
          exact ⟨hok, h.ok', h.ps, by
            have : view (d.put (doG d.g e.o).1).g c = view (doG d.g e.o).1 c := rfl
            rw [this, view_do_no h.ok.ok hk2]; exact h.vw, fun i hi hl => h.lo i hi hl⟩
    · simp only [k1, if_false] at hok ⊢
      by_cases k2 : e.k = 2
      · simp only [k2, if_true] at hok ⊢
        split
        · exact h
        · rename_i h1
          rw [if_neg h1] at hok
          split
          · rename_i h2
            rw [if_pos h2] at hok
            exact ⟨hok, h.ok', h.ps, h.vw, fun i hi hl => by rw [pl_setl (hne i hl)]; exact h.lo i hi hl⟩
          · rename_i h2
            rw [if_neg h2] at hok
            exact ⟨hok, h.ok', h.ps, h.vw, fun i hi hl => by
              obtain ⟨a, b⟩ := pl_set (d := d) (q := (readP d e.w.toNat e.q).1) (l := d.lf e.w.toNat - (readP d e.w.toNat e.q).2) (hne i hl)
              rw [a, b]; exact h.lo i hi hl⟩
      · simp only [k2, if_false] at hok ⊢
        split
        · rename_i h3
          rw [if_pos h3] at hok
          exact ⟨hok, h.ok', h.ps, h.vw, fun i hi hl => by rw [pl_setl (hne i hl)]; exact h.lo i hi hl⟩
        · exact h
theorem Rl.symm {c : Int} {d d' : Wd} (h : Rl c d d') : Rl c d' d := ⟨h.ok', h.ok, h.ps.symm, h.vw.symm, fun i hi hl => by
  have e : d'.pe i = d.pe i := by unfold Wd.pe; rw [h.ps]
  rw [e] at hl
  rw [h.ps] at hi
  have := h.lo i hi hl
  exact ⟨this.1.symm, this.2.symm⟩⟩
/-- What is kept is done, and told to the low ones, in both worlds alike. -/
theorem Rl.step {c : Int} {d d' : Wd} {e : Ev} (h : Rl c d d') : Rl c (doW d e).1 (doW d' e).1 ∧ (lowP d.ps c e = true → (doW d e).2 = (doW d' e).2) := by
  by_cases hk : keepE d.ps c e = false
  · have h1 := h.skip hk
    have h2 := (h1.symm.skip (e := e) (by
      have : (doW d e).1.ps = d.ps := by rw [← h1.ps, h.ps]
      rw [h.ps]; exact hk)).symm
    refine ⟨h2, fun hl => ?_⟩
    simp only [keepE, Bool.or_eq_false_iff] at hk
    rw [hk.1] at hl; cases hl
  have hkeep : keepE d.ps c e = true := by simpa using hk
  have hpe : ∀ i, d'.pe i = d.pe i := fun i => by unfold Wd.pe; rw [h.ps]
  unfold doW
  rw [h.ps]
  by_cases hw : e.w < 0 ∨ (d.ps.length : Int) ≤ e.w
  · rw [if_pos hw, if_pos hw]
    exact ⟨h, fun _ => rfl⟩
  rw [if_neg hw, if_neg hw]
  have hi : e.w.toNat < d.ps.length := by omega
  have hi' : e.w.toNat < d'.ps.length := by rw [h.ps]; exact hi
  have hok := h.ok.doI hi e
  have hok' := h.ok'.doI hi' e
  unfold doI at hok hok' ⊢
  rw [hpe] at *
  by_cases k1 : e.k = 1
  · simp only [k1, if_true] at hok hok' ⊢
    by_cases h1 : olab e.o < 0
    · rw [if_pos h1, if_pos h1]
      exact ⟨h, fun _ => rfl⟩
    rw [if_neg h1] at hok hok' ⊢
    rw [if_neg h1]
    by_cases h2 : und (olab e.o) (d.pe e.w.toNat).c = false
    · rw [if_pos h2, if_pos h2]
      exact ⟨h, fun _ => rfl⟩
    rw [if_neg h2] at hok hok' ⊢
    rw [if_neg h2]
    have hvis : lun (olab e.o) c = true := by
      simp only [keepE, Bool.or_eq_true, Bool.and_eq_true] at hkeep
      rcases hkeep with hl | hl
      · simp only [lowP, Bool.and_eq_true] at hl
        have h2' : und (olab e.o) (d.pe e.w.toNat).c = true := by cases hb : und (olab e.o) (d.pe e.w.toNat).c with
          | true => rfl
          | false => exact absurd hb h2
        exact lun_trans (lun_iff.2 ⟨olab_lok (by omega), (lun_iff.1 hl.2).1, h2'⟩) hl.2
      · exact hl.2
    obtain ⟨a1, a2⟩ := view_do_yes (g := d.g) (by omega) hvis
    obtain ⟨b1, b2⟩ := view_do_yes (g := d'.g) (by omega) hvis
    refine ⟨⟨hok, hok', h.ps, ?_, fun i hi hl => h.lo i hi hl⟩, fun _ => ?_⟩
    · show view (doG d.g e.o).1 c = view (doG d'.g e.o).1 c
      rw [a1, b1, h.vw]
    · rw [a2, b2, h.vw]
  have hlow : lun (d.pe e.w.toNat).c c = true := by
    simp only [keepE, Bool.or_eq_true, Bool.and_eq_true, k1, decide_false, Bool.false_eq_true, false_and, or_false] at hkeep
    simp only [lowP, Bool.and_eq_true] at hkeep
    exact hkeep.2
  obtain ⟨e1, e2⟩ := h.lo _ hi hlow
  have e3 : view d'.g (d.pe e.w.toNat).c = view d.g (d.pe e.w.toNat).c := by rw [← view_view (g := d.g) hlow, ← view_view (g := d'.g) hlow, h.vw]
  have e4 : ∀ q, readP d' e.w.toNat q = readP d e.w.toNat q := fun q => by unfold readP; rw [hpe, e3, e1]
  simp only [k1, if_false] at hok hok' ⊢
  have hset : ∀ (q : Pl) (l : Int), WOk { d with qs := d.qs.set e.w.toNat q, ls := d.ls.set e.w.toNat l } → WOk { d' with qs := d'.qs.set e.w.toNat q, ls := d'.ls.set e.w.toNat l } → Rl c { d with qs := d.qs.set e.w.toNat q, ls := d.ls.set e.w.toNat l } { d' with qs := d'.qs.set e.w.toNat q, ls := d'.ls.set e.w.toNat l } := fun q l o o' =>
    ⟨o, o', h.ps, h.vw, fun i hi2 hl => by
      by_cases hij : e.w.toNat = i
      · subst hij
        have l1 := (h.ok.per hi).q; have l2 := (h.ok'.per hi').q; have l3 := (h.ok.per hi).l; have l4 := (h.ok'.per hi').l
        have m1 := (List.getElem?_eq_some_iff.1 l1).1; have m2 := (List.getElem?_eq_some_iff.1 l2).1; have m3 := (List.getElem?_eq_some_iff.1 l3).1; have m4 := (List.getElem?_eq_some_iff.1 l4).1
        simp [Wd.pl, Wd.lf, List.getD_eq_getElem?_getD, m1, m2, m3, m4]
      · obtain ⟨a, b⟩ := pl_set (d := d) (q := q) (l := l) hij
        obtain ⟨a', b'⟩ := pl_set (d := d') (q := q) (l := l) hij
        rw [a, b, a', b']
        exact h.lo i hi2 hl⟩
  have hsetl : ∀ (l : Int), WOk { d with ls := d.ls.set e.w.toNat l } → WOk { d' with ls := d'.ls.set e.w.toNat l } → Rl c { d with ls := d.ls.set e.w.toNat l } { d' with ls := d'.ls.set e.w.toNat l } := fun l o o' => by
    have := hset (d.pl e.w.toNat) l
    rw [set_same (h.ok.per hi).q, e1, set_same (h.ok'.per hi').q] at this
    exact this o o'
  by_cases k2 : e.k = 2
  · simp only [k2, if_true, e4, ← e2] at hok hok' ⊢
    by_cases h1 : qok e.q = false
    · rw [if_pos h1, if_pos h1]
      exact ⟨h, fun _ => rfl⟩
    rw [if_neg h1] at hok hok' ⊢
    rw [if_neg h1]
    by_cases h2 : d.lf e.w.toNat < (readP d e.w.toNat e.q).2
    · rw [if_pos h2] at hok hok' ⊢
      rw [if_pos h2]
      exact ⟨hsetl _ hok hok', fun _ => rfl⟩
    · rw [if_neg h2] at hok hok' ⊢
      rw [if_neg h2]
      exact ⟨hset _ _ hok hok', fun _ => by rw [e3]⟩
  · simp only [k2, if_false] at hok hok' ⊢
    by_cases k3 : e.k = 3
    · rw [if_pos k3] at hok hok' ⊢
      rw [if_pos k3]
      exact ⟨hsetl _ hok hok', fun _ => rfl⟩
    · rw [if_neg k3, if_neg k3]
      exact ⟨h, fun _ => rfl⟩
/-- The second list is the first without some of what is not kept. -/
inductive Thin (ps : List Pe) (c : Int) : List Ev → List Ev → Prop where
  | nil : Thin ps c [] []
  | keep {e : Ev} {a b : List Ev} (h : Thin ps c a b) : Thin ps c (e :: a) (e :: b)
  | drop {e : Ev} {a b : List Ev} (hk : keepE ps c e = false) (h : Thin ps c a b) : Thin ps c (e :: a) b
theorem Thin.refl (ps : List Pe) (c : Int) : ∀ a, Thin ps c a a
  | [] => .nil
  | e :: a => .keep (Thin.refl ps c a)
theorem Thin.filter (ps : List Pe) (c : Int) : ∀ a, Thin ps c a (a.filter (keepE ps c))
  | [] => .nil
  | e :: a => by
    rw [List.filter_cons]
    split
    · exact .keep (Thin.filter ps c a)
    · rename_i h; exact .drop (by simpa using h) (Thin.filter ps c a)
theorem Thin.app {ps : List Pe} {c : Int} {a b : List Ev} (x : List Ev) (h : Thin ps c a b) : Thin ps c (x ++ a) (x ++ b) := by
  induction x with
  | nil => exact h
  | cons e x ih => exact .keep ih
theorem Thin.len {ps : List Pe} {c : Int} {a b : List Ev} (h : Thin ps c a b) : b.length ≤ a.length := by
  induction h with
  | nil => exact Nat.le_refl _
  | keep _ ih => simp only [List.length_cons]; omega
  | drop _ _ ih => simp only [List.length_cons]; omega
theorem doW_ps (d : Wd) (e : Ev) : (doW d e).1.ps = d.ps := by
  unfold doW
  split
  · rfl
  · unfold doI
    split
    · split
      · rfl
      · split <;> rfl
    · split
      · split
        · rfl
        · split <;> rfl
      · split <;> rfl
theorem Thin.run {c : Int} {a b : List Ev} {ps : List Pe} (h : Thin ps c a b) : ∀ {d d' : Wd}, Rl c d d' → d.ps = ps → Rl c (runW d a).1 (runW d' b).1 ∧ seen2 ps c (a.zip (runW d a).2) = seen2 ps c (b.zip (runW d' b).2) := by
  induction h with
  | nil => intro d d' hr _; exact ⟨hr, rfl⟩
  | @keep e a b h ih =>
    intro d d' hr hp
    obtain ⟨h1, h2⟩ := hr.step (e := e)
    obtain ⟨i1, i2⟩ := ih h1 (by rw [doW_ps, hp])
    rw [runW_cons, runW_cons]
    refine ⟨i1, ?_⟩
    simp only [List.zip_cons_cons, seen2, List.filter_cons] at i2 ⊢
    by_cases hl : lowP ps c e = true
    · simp only [hl, if_true, List.map_cons]
      rw [h2 (by rw [hp]; exact hl)]
      exact congrArg _ i2
    · simp only [hl]; exact i2
  | @drop e a b hk h ih =>
    intro d d' hr hp
    have h1 := hr.skip (e := e) (by rw [hp]; exact hk)
    obtain ⟨i1, i2⟩ := ih h1 (by rw [doW_ps, hp])
    rw [runW_cons]
    refine ⟨i1, ?_⟩
    simp only [List.zip_cons_cons, seen2, List.filter_cons] at i2 ⊢
    have hl : ¬ lowP ps c e = true := by
      simp only [keepE, Bool.or_eq_false_iff] at hk
      simp [hk.1]
    simp only [hl]; exact i2
theorem newW_ps {ps : List Pe} (h : PsOk ps) : (newW ps).ps = ps := by unfold newW; rw [if_pos h]
/-- What the low ones are told does not hang on what they can not see. -/
theorem seen_thin {ps : List Pe} {a b : List Ev} {c : Int} (h : Thin ps c a b) (hl : a.length ≤ 80) : seenW ps a c = seenW ps b c ∧ (PsOk ps → Rl c (playW ps a).1 (playW ps b).1) := by
  have hb := h.len
  unfold seenW playW
  by_cases hp : PsOk ps
  · rw [if_pos ⟨hp, hl⟩, if_pos ⟨hp, by omega⟩]
    obtain ⟨h1, h2⟩ := h.run (Rl.refl (c := c) (wok_newW ps)) (newW_ps hp)
    exact ⟨h2, fun _ => h1⟩
  · rw [if_neg (fun h => hp h.1), if_neg (fun h => hp h.1)]
    exact ⟨by simp [seen2], fun h => absurd h hp⟩
end E
end Go.Proofs.Ytjdagbicjhmeeaa
