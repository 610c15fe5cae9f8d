/- Worlds, and what can not be seen (plain). -/
import Derived.Test.YtpiiapoafmnhhaaGreatQf
import Derived.Test.YtpiiapoafmnhhaaGreatM03
namespace Go.Proofs.YtpiiapoafmnhhaaGreat
namespace E
open Go
set_option linter.unusedVariables false
/-! ### Worlds -/
structure Td where
  c : Int
  a : List Int
  r : Int
  deriving DecidableEq
def Wd.g (d : Wd) : Gr := ⟨d.ns, d.es⟩
def Wd.put (d : Wd) (g : Gr) : Wd := { d with ns := g.ns, es := g.es }
abbrev wd0 : Wd := ⟨[], [], [], [], []⟩
def newW (ps : List Pe) : Wd := if PsOk ps then ⟨ps, [], [], ps.map (fun p => ⟨p.z, []⟩), ps.map (fun p => p.q)⟩ else wd0
def peD : Pe := ⟨0, 0, 0⟩
def plD : Pl := ⟨0, []⟩
def Wd.pe (d : Wd) (i : Nat) : Pe := d.ps.getD i peD
def Wd.pl (d : Wd) (i : Nat) : Pl := d.qs.getD i plD
def Wd.lf (d : Wd) (i : Nat) : Int := d.ls.getD i 0
def readP (d : Wd) (i : Nat) (q : Qu) : Pl × Int := allP (d.pl i) (pagesL (view d.g (d.pe i).c) q)
/-- What is done in a right world by one of the people. -/
def doI (d : Wd) (i : Nat) (e : Ev) : Wd × Td :=
  if e.k = 1 then
    if olab e.o < 0 then (d, ⟨1, [], 0⟩)
    else if und (olab e.o) (d.pe i).c = false then (d, ⟨5, [], 0⟩)
    else (d.put (doG d.g e.o).1, ⟨(doG d.g e.o).2, [], 0⟩)
  else if e.k = 2 then
    if qok e.q = false then (d, ⟨1, [], 0⟩)
    else if d.lf i < (readP d i e.q).2 then ({ d with ls := d.ls.set i 0 }, ⟨6, [], d.lf i⟩)
    else ({ d with qs := d.qs.set i (readP d i e.q).1, ls := d.ls.set i (d.lf i - (readP d i e.q).2) }, ⟨0, askG (view d.g (d.pe i).c) e.q, (readP d i e.q).2⟩)
  else if e.k = 3 then ({ d with ls := d.ls.set i (d.pe i).q }, ⟨0, [], 0⟩)
  else (d, ⟨1, [], 0⟩)
def doW (d : Wd) (e : Ev) : Wd × Td := if e.w < 0 ∨ (d.ps.length : Int) ≤ e.w then (d, ⟨1, [], 0⟩) else doI d e.w.toNat e
noncomputable def worldDo (d : Wd) (e : Ev) : Wd × Td := @ite _ (WOk d) (Classical.propDecidable _) (doW d e) (wd0, ⟨1, [], 0⟩)
theorem getD_some {α : Type} {xs : List α} {i : Nat} {x d : α} (h : xs[i]? = some x) : xs.getD i d = x := by simp [List.getD_eq_getElem?_getD, h]
theorem WOk.ok {d : Wd} (h : WOk d) : d.g.ok := Gr.ok_iff.2 h.2.1
structure Per (d : Wd) (i : Nat) : Prop where
  p : d.ps[i]? = some (d.pe i)
  q : d.qs[i]? = some (d.pl i)
  l : d.ls[i]? = some (d.lf i)
  pok : pok (d.pe i) = true
  qok : PlOk (d.pl i)
  z : (d.pl i).z = (d.pe i).z
  lo : 0 ≤ d.lf i
  hi : d.lf i ≤ (d.pe i).q
theorem WOk.per {d : Wd} (h : WOk d) {i : Nat} (hi : i < d.ps.length) : Per d i := by
  obtain ⟨h1, h2, h3, h4, h5⟩ := h
  obtain ⟨p, hp⟩ : ∃ p, d.ps[i]? = some p := ⟨_, List.getElem?_eq_getElem hi⟩
  obtain ⟨q, hq⟩ : ∃ q, d.qs[i]? = some q := ⟨_, List.getElem?_eq_getElem (by omega)⟩
  obtain ⟨l, hl⟩ : ∃ l, d.ls[i]? = some l := ⟨_, List.getElem?_eq_getElem (by omega)⟩
  have := h5 i p q l hp hq hl
  have e1 : d.pe i = p := getD_some hp
  have e2 : d.pl i = q := getD_some hq
  have e3 : d.lf i = l := getD_some hl
  exact ⟨by rw [e1]; exact hp, by rw [e2]; exact hq, by rw [e3]; exact hl, by rw [e1]; exact h1.1 p (List.mem_of_getElem? hp), by rw [e2]; exact this.1, by rw [e1, e2]; exact this.2.1, by rw [e3]; exact this.2.2.1, by rw [e1, e3]; exact this.2.2.2⟩
theorem set_get {α : Type} {xs : List α} {i j : Nat} {x y : α} (h : (xs.set i x)[j]? = some y) : (i = j ∧ y = x) ∨ (i ≠ j ∧ xs[j]? = some y) := by
  rw [List.getElem?_set] at h
  split at h
  · rename_i e
    split at h
    · injection h with h; exact Or.inl ⟨e, h.symm⟩
    · cases h
  · rename_i e; exact Or.inr ⟨e, h⟩
/-- A right world in which what one of the people has is turned to what is right. -/
theorem WOk.set {d : Wd} (h : WOk d) {i : Nat} (hi : i < d.ps.length) {q : Pl} {l : Int} (hq : PlOk q) (hz : q.z = (d.pe i).z) (hl : 0 ≤ l ∧ l ≤ (d.pe i).q) : WOk { d with qs := d.qs.set i q, ls := d.ls.set i l } := by
  have hp := (h.per hi).p
  obtain ⟨h1, h2, h3, h4, h5⟩ := h
  refine ⟨h1, h2, by simpa using h3, by simpa using h4, fun j p' q' l' hp' hq' hl' => ?_⟩
  simp only at hp' hq' hl'
  rcases set_get hq' with ⟨e, eq⟩ | ⟨e, hq'⟩
  · rcases set_get hl' with ⟨e', el⟩ | ⟨e', _⟩
    · subst e
      rw [hp] at hp'; injection hp' with hp'
      rw [eq, el, ← hp']
      exact ⟨hq, hz, hl⟩
    · exact absurd e e'
  · rcases set_get hl' with ⟨e', _⟩ | ⟨_, hl'⟩
    · exact absurd e' e
    · exact h5 j p' q' l' hp' hq' hl'
theorem set_same {α : Type} {xs : List α} {i : Nat} {x : α} (h : xs[i]? = some x) : xs.set i x = xs := by
  apply List.ext_getElem?
  intro j
  rw [List.getElem?_set]
  split
  · rename_i e; subst e
    rw [if_pos (List.getElem?_eq_some_iff.1 h).1, h]
  · rfl
theorem WOk.setl {d : Wd} (h : WOk d) {i : Nat} (hi : i < d.ps.length) {l : Int} (hl : 0 ≤ l ∧ l ≤ (d.pe i).q) : WOk { d with ls := d.ls.set i l } := by
  have hp := h.per hi
  have := h.set hi hp.qok hp.z hl
  rwa [set_same hp.q] at this
theorem readP_ok {d : Wd} (h : WOk d) {i : Nat} (hi : i < d.ps.length) (q : Qu) : PlOk (readP d i q).1 ∧ (readP d i q).1.z = (d.pe i).z ∧ 0 ≤ (readP d i q).2 := by
  have hp := h.per hi
  refine ⟨hp.qok.all (fun x hx => (pages_in h.ok.view hx).1), by rw [← hp.z]; exact allP_z _ _, (allP_n _ _).1⟩
theorem WOk.put {d : Wd} (h : WOk d) {g : Gr} (hg : g.ok) : WOk (d.put g) := ⟨h.1, Gr.ok_iff.1 hg, h.2.2.1, h.2.2.2.1, h.2.2.2.2⟩
theorem WOk.doI {d : Wd} (h : WOk d) {i : Nat} (hi : i < d.ps.length) (e : Ev) : WOk (doI d i e).1 := by
  have hp := h.per hi
  unfold E.doI
  split
  · split
    · exact h
    · split
      · exact h
      · exact h.put h.ok.doG
  · split
    · split
      · exact h
      · obtain ⟨a, b, c⟩ := readP_ok h hi e.q
        split
        · exact h.setl hi ⟨Int.le_refl _, Int.le_trans hp.lo hp.hi⟩
        · rename_i hn
          exact h.set hi a b ⟨by omega, by have := hp.hi; omega⟩
    · split
      · exact h.setl hi ⟨Int.le_trans hp.lo hp.hi, Int.le_refl _⟩
      · exact h
theorem WOk.doW {d : Wd} (h : WOk d) (e : Ev) : WOk (doW d e).1 := by
  unfold E.doW
  split
  · exact h
  · rename_i hn
    exact h.doI (by omega) e
def runS (s : Wd × List Td) (e : Ev) : Wd × List Td := ((doW s.1 e).1, s.2 ++ [(doW s.1 e).2])
def runW (d : Wd) (evs : List Ev) : Wd × List Td := evs.foldl runS (d, [])
theorem runF_app : ∀ (evs : List Ev) (d : Wd) (t : List Td), evs.foldl runS (d, t) = ((runW d evs).1, t ++ (runW d evs).2)
  | [], d, t => by simp [runW]
  | e :: evs, d, t => by
    have h1 := runF_app evs (doW d e).1 (t ++ [(doW d e).2])
    have h2 := runF_app evs (doW d e).1 [(doW d e).2]
    unfold runW
    simp only [List.foldl_cons, runS, List.nil_append] at h1 h2 ⊢
    rw [h1, h2]
    simp
theorem runW_cons (d : Wd) (e : Ev) (evs : List Ev) : runW d (e :: evs) = ((runW (doW d e).1 evs).1, (doW d e).2 :: (runW (doW d e).1 evs).2) := by
  have := runF_app evs (doW d e).1 [(doW d e).2]
  unfold runW at this ⊢
  rw [List.foldl_cons]
  simp only [runS, List.nil_append]
  rw [this]
  simp
def playW (ps : List Pe) (evs : List Ev) : Wd × List Td := if PsOk ps ∧ evs.length ≤ 80 then runW (newW ps) evs else (wd0, [])
def lowP (ps : List Pe) (c : Int) (e : Ev) : Bool := decide (0 ≤ e.w) && decide (e.w < ps.length) && lun (ps.getD e.w.toNat peD).c c
def seen2 (ps : List Pe) (c : Int) (l : List (Ev × Td)) : List Td := (l.filter (fun x => lowP ps c x.1)).map (·.2)
def seenW (ps : List Pe) (evs : List Ev) (c : Int) : List Td := seen2 ps c (evs.zip (playW ps evs).2)
def keepE (ps : List Pe) (c : Int) (e : Ev) : Bool := lowP ps c e || (decide (e.k = 1) && lun (olab e.o) c)
def purgeW (ps : List Pe) (evs : List Ev) (c : Int) : List Ev := evs.filter (keepE ps c)
/-! ### What can not be seen bears on nothing -/
structure Rl (c : Int) (d d' : Wd) : Prop where
  ok : WOk d
  ok' : WOk d'
  ps : d'.ps = d.ps
  vw : view d.g c = view d'.g c
  lo : ∀ i, i < d.ps.length → lun (d.pe i).c c = true → d.pl i = d'.pl i ∧ d.lf i = d'.lf i
theorem Rl.refl {c : Int} {d : Wd} (h : WOk d) : Rl c d d := ⟨h, h, rfl, rfl, fun _ _ _ => ⟨rfl, rfl⟩⟩
theorem pl_set {d : Wd} {i j : Nat} {q : Pl} {l : Int} (hij : i ≠ j) : ({ d with qs := d.qs.set i q, ls := d.ls.set i l } : Wd).pl j = d.pl j ∧ ({ d with qs := d.qs.set i q, ls := d.ls.set i l } : Wd).lf j = d.lf j := by
  simp [Wd.pl, Wd.lf, List.getD_eq_getElem?_getD, hij]
theorem pl_setl {d : Wd} {i j : Nat} {l : Int} (hij : i ≠ j) : ({ d with ls := d.ls.set i l } : Wd).lf j = d.lf j := by
  simp [Wd.lf, List.getD_eq_getElem?_getD, hij]
/-- Of those who are not low, and what is not put under the label, the low ones note nothing. -/
theorem Rl.skip {c : Int} {d d' : Wd} {e : Ev} (h : Rl c d d') (hk : keepE d.ps c e = false) : Rl c (doW d e).1 d' := by
  simp only [keepE, Bool.or_eq_false_iff] at hk
  obtain ⟨hk1, hk2⟩ := hk
  unfold doW
  split
  · exact h
  · rename_i hw
    have hi : e.w.toNat < d.ps.length := by omega
    have hlow : lun (d.pe e.w.toNat).c c = false := by
      simp only [lowP, Bool.and_eq_false_iff, decide_eq_false_iff_not] at hk1
      rcases hk1 with (h1 | h1) | h1
      · omega
      · omega
      · exact h1
    have hne : ∀ j, lun (d.pe j).c c = true → e.w.toNat ≠ j := fun j hj e' => by subst e'; rw [hlow] at hj; cases hj
    have hok := h.ok.doI hi e
    unfold doI at hok ⊢
    by_cases k1 : e.k = 1
    · simp only [k1, decide_true, Bool.true_and] at hk2
      simp only [k1, if_true] at hok ⊢
      split
      · exact h
      · split
        · exact h
        · rename_i h1 h2
          rw [if_neg h1, if_neg h2] at hok
          exact ⟨hok, h.ok', h.ps, by
            have : view (d.put (doG d.g e.o).1).g c = view (doG d.g e.o).1 c := rfl
            rw [this, view_do_no h.ok.ok hk2]; exact h.vw, fun i hi hl => h.lo i hi hl⟩
    · simp only [k1, if_false] at hok ⊢
      by_cases k2 : e.k = 2
      · simp only [k2, if_true] at hok ⊢
        split
        · exact h
        · rename_i h1
          rw [if_neg h1] at hok
          split
          · rename_i h2
            rw [if_pos h2] at hok
            exact ⟨hok, h.ok', h.ps, h.vw, fun i hi hl => by rw [pl_setl (hne i hl)]; exact h.lo i hi hl⟩
          · rename_i h2
            rw [if_neg h2] at hok
            exact ⟨hok, h.ok', h.ps, h.vw, fun i hi hl => by
              obtain ⟨a, b⟩ := pl_set (d := d) (q := (readP d e.w.toNat e.q).1) (l := d.lf e.w.toNat - (readP d e.w.toNat e.q).2) (hne i hl)
              rw [a, b]; exact h.lo i hi hl⟩
      · simp only [k2, if_false] at hok ⊢
        split
        · rename_i h3
          rw [if_pos h3] at hok
          exact ⟨hok, h.ok', h.ps, h.vw, fun i hi hl => by rw [pl_setl (hne i hl)]; exact h.lo i hi hl⟩
        · exact h
theorem Rl.symm {c : Int} {d d' : Wd} (h : Rl c d d') : Rl c d' d := ⟨h.ok', h.ok, h.ps.symm, h.vw.symm, fun i hi hl => by
  have e : d'.pe i = d.pe i := by unfold Wd.pe; rw [h.ps]
  rw [e] at hl
  rw [h.ps] at hi
  have := h.lo i hi hl
  exact ⟨this.1.symm, this.2.symm⟩⟩
/-- What is kept is done, and told to the low ones, in both worlds alike. -/
theorem Rl.step {c : Int} {d d' : Wd} {e : Ev} (h : Rl c d d') : Rl c (doW d e).1 (doW d' e).1 ∧ (lowP d.ps c e = true → (doW d e).2 = (doW d' e).2) := by
  by_cases hk : keepE d.ps c e = false
  · have h1 := h.skip hk
    have h2 := (h1.symm.skip (e := e) (by
      have : (doW d e).1.ps = d.ps := by rw [← h1.ps, h.ps]
      rw [h.ps]; exact hk)).symm
    refine ⟨h2, fun hl => ?_⟩
    simp only [keepE, Bool.or_eq_false_iff] at hk
    rw [hk.1] at hl; cases hl
  have hkeep : keepE d.ps c e = true := by simpa using hk
  have hpe : ∀ i, d'.pe i = d.pe i := fun i => by unfold Wd.pe; rw [h.ps]
  unfold doW
  rw [h.ps]
  by_cases hw : e.w < 0 ∨ (d.ps.length : Int) ≤ e.w
  · rw [if_pos hw, if_pos hw]
    exact ⟨h, fun _ => rfl⟩
  rw [if_neg hw, if_neg hw]
  have hi : e.w.toNat < d.ps.length := by omega
  have hi' : e.w.toNat < d'.ps.length := by rw [h.ps]; exact hi
  have hok := h.ok.doI hi e
  have hok' := h.ok'.doI hi' e
  unfold doI at hok hok' ⊢
  rw [hpe] at *
  by_cases k1 : e.k = 1
  · simp only [k1, if_true] at hok hok' ⊢
    by_cases h1 : olab e.o < 0
    · rw [if_pos h1, if_pos h1]
      exact ⟨h, fun _ => rfl⟩
    rw [if_neg h1] at hok hok' ⊢
    rw [if_neg h1]
    by_cases h2 : und (olab e.o) (d.pe e.w.toNat).c = false
    · rw [if_pos h2, if_pos h2]
      exact ⟨h, fun _ => rfl⟩
    rw [if_neg h2] at hok hok' ⊢
    rw [if_neg h2]
    have hvis : lun (olab e.o) c = true := by
      simp only [keepE, Bool.or_eq_true, Bool.and_eq_true] at hkeep
      rcases hkeep with hl | hl
      · simp only [lowP, Bool.and_eq_true] at hl
        have h2' : und (olab e.o) (d.pe e.w.toNat).c = true := by cases hb : und (olab e.o) (d.pe e.w.toNat).c with
          | true => rfl
          | false => exact absurd hb h2
        exact lun_trans (lun_iff.2 ⟨olab_lok (by omega), (lun_iff.1 hl.2).1, h2'⟩) hl.2
      · exact hl.2
    obtain ⟨a1, a2⟩ := view_do_yes (g := d.g) (by omega) hvis
    obtain ⟨b1, b2⟩ := view_do_yes (g := d'.g) (by omega) hvis
    refine ⟨⟨hok, hok', h.ps, ?_, fun i hi hl => h.lo i hi hl⟩, fun _ => ?_⟩
    · show view (doG d.g e.o).1 c = view (doG d'.g e.o).1 c
      rw [a1, b1, h.vw]
    · rw [a2, b2, h.vw]
  have hlow : lun (d.pe e.w.toNat).c c = true := by
    simp only [keepE, Bool.or_eq_true, Bool.and_eq_true, k1, decide_false, Bool.false_eq_true, false_and, or_false] at hkeep
    simp only [lowP, Bool.and_eq_true] at hkeep
    exact hkeep.2
  obtain ⟨e1, e2⟩ := h.lo _ hi hlow
  have e3 : view d'.g (d.pe e.w.toNat).c = view d.g (d.pe e.w.toNat).c := by rw [← view_view (g := d.g) hlow, ← view_view (g := d'.g) hlow, h.vw]
  have e4 : ∀ q, readP d' e.w.toNat q = readP d e.w.toNat q := fun q => by unfold readP; rw [hpe, e3, e1]
  simp only [k1, if_false] at hok hok' ⊢
  have hset : ∀ (q : Pl) (l : Int), WOk { d with qs := d.qs.set e.w.toNat q, ls := d.ls.set e.w.toNat l } → WOk { d' with qs := d'.qs.set e.w.toNat q, ls := d'.ls.set e.w.toNat l } → Rl c { d with qs := d.qs.set e.w.toNat q, ls := d.ls.set e.w.toNat l } { d' with qs := d'.qs.set e.w.toNat q, ls := d'.ls.set e.w.toNat l } := fun q l o o' =>
    ⟨o, o', h.ps, h.vw, fun i hi2 hl => by
      by_cases hij : e.w.toNat = i
      · subst hij
        have l1 := (h.ok.per hi).q; have l2 := (h.ok'.per hi').q; have l3 := (h.ok.per hi).l; have l4 := (h.ok'.per hi').l
        have m1 := (List.getElem?_eq_some_iff.1 l1).1; have m2 := (List.getElem?_eq_some_iff.1 l2).1; have m3 := (List.getElem?_eq_some_iff.1 l3).1; have m4 := (List.getElem?_eq_some_iff.1 l4).1
        simp [Wd.pl, Wd.lf, List.getD_eq_getElem?_getD, m1, m2, m3, m4]
      · obtain ⟨a, b⟩ := pl_set (d := d) (q := q) (l := l) hij
        obtain ⟨a', b'⟩ := pl_set (d := d') (q := q) (l := l) hij
        rw [a, b, a', b']
        exact h.lo i hi2 hl⟩
  have hsetl : ∀ (l : Int), WOk { d with ls := d.ls.set e.w.toNat l } → WOk { d' with ls := d'.ls.set e.w.toNat l } → Rl c { d with ls := d.ls.set e.w.toNat l } { d' with ls := d'.ls.set e.w.toNat l } := fun l o o' => by
    have := hset (d.pl e.w.toNat) l
    rw [set_same (h.ok.per hi).q, e1, set_same (h.ok'.per hi').q] at this
    exact this o o'
  by_cases k2 : e.k = 2
  · simp only [k2, if_true, e4, ← e2] at hok hok' ⊢
    by_cases h1 : qok e.q = false
    · rw [if_pos h1, if_pos h1]
      exact ⟨h, fun _ => rfl⟩
    rw [if_neg h1] at hok hok' ⊢
    rw [if_neg h1]
    by_cases h2 : d.lf e.w.toNat < (readP d e.w.toNat e.q).2
    · rw [if_pos h2] at hok hok' ⊢
      rw [if_pos h2]
      exact ⟨hsetl _ hok hok', fun _ => rfl⟩
    · rw [if_neg h2] at hok hok' ⊢
      rw [if_neg h2]
      exact ⟨hset _ _ hok hok', fun _ => by rw [e3]⟩
  · simp only [k2, if_false] at hok hok' ⊢
    by_cases k3 : e.k = 3
    · rw [if_pos k3] at hok hok' ⊢
      rw [if_pos k3]
      exact ⟨hsetl _ hok hok', fun _ => rfl⟩
    · rw [if_neg k3, if_neg k3]
      exact ⟨h, fun _ => rfl⟩
/-- The second list is the first without some of what is not kept. -/
inductive Thin (ps : List Pe) (c : Int) : List Ev → List Ev → Prop where
  | nil : Thin ps c [] []
  | keep {e : Ev} {a b : List Ev} (h : Thin ps c a b) : Thin ps c (e :: a) (e :: b)
  | drop {e : Ev} {a b : List Ev} (hk : keepE ps c e = false) (h : Thin ps c a b) : Thin ps c (e :: a) b
theorem Thin.refl (ps : List Pe) (c : Int) : ∀ a, Thin ps c a a
  | [] => .nil
  | e :: a => .keep (Thin.refl ps c a)
theorem Thin.filter (ps : List Pe) (c : Int) : ∀ a, Thin ps c a (a.filter (keepE ps c))
  | [] => .nil
  | e :: a => by
    rw [List.filter_cons]
    split
    · exact .keep (Thin.filter ps c a)
    · rename_i h; exact .drop (by simpa using h) (Thin.filter ps c a)
theorem Thin.app {ps : List Pe} {c : Int} {a b : List Ev} (x : List Ev) (h : Thin ps c a b) : Thin ps c (x ++ a) (x ++ b) := by
  induction x with
  | nil => exact h
  | cons e x ih => exact .keep ih
theorem Thin.len {ps : List Pe} {c : Int} {a b : List Ev} (h : Thin ps c a b) : b.length ≤ a.length := by
  induction h with
  | nil => exact Nat.le_refl _
  | keep _ ih => simp only [List.length_cons]; omega
  | drop _ _ ih => simp only [List.length_cons]; omega
theorem doW_ps (d : Wd) (e : Ev) : (doW d e).1.ps = d.ps := by
  unfold doW
  split
  · rfl
  · unfold doI
    split
    · split
      · rfl
      · split <;> rfl
    · split
      · split
        · rfl
        · split <;> rfl
      · split <;> rfl
theorem Thin.run {c : Int} {a b : List Ev} {ps : List Pe} (h : Thin ps c a b) : ∀ {d d' : Wd}, Rl c d d' → d.ps = ps → Rl c (runW d a).1 (runW d' b).1 ∧ seen2 ps c (a.zip (runW d a).2) = seen2 ps c (b.zip (runW d' b).2) := by
  induction h with
  | nil => intro d d' hr _; exact ⟨hr, rfl⟩
  | @keep e a b h ih =>
    intro d d' hr hp
    obtain ⟨h1, h2⟩ := hr.step (e := e)
    obtain ⟨i1, i2⟩ := ih h1 (by rw [doW_ps, hp])
    rw [runW_cons, runW_cons]
    refine ⟨i1, ?_⟩
    simp only [List.zip_cons_cons, seen2, List.filter_cons] at i2 ⊢
    by_cases hl : lowP ps c e = true
    · simp only [hl, if_true, List.map_cons]
      rw [h2 (by rw [hp]; exact hl)]
      exact congrArg _ i2
    · simp only [hl]; exact i2
  | @drop e a b hk h ih =>
    intro d d' hr hp
    have h1 := hr.skip (e := e) (by rw [hp]; exact hk)
    obtain ⟨i1, i2⟩ := ih h1 (by rw [doW_ps, hp])
    rw [runW_cons]
    refine ⟨i1, ?_⟩
    simp only [List.zip_cons_cons, seen2, List.filter_cons] at i2 ⊢
    have hl : ¬ lowP ps c e = true := by
      simp only [keepE, Bool.or_eq_false_iff] at hk
      simp [hk.1]
    simp only [hl]; exact i2
end E
end Go.Proofs.YtpiiapoafmnhhaaGreat
/- Pools, both sides. -/
namespace Go.Proofs.YtpiiapoafmnhhaaGreat
namespace E
open Go Go.RowKit
set_option linter.unusedSimpArgs false
set_option linter.unusedVariables false
set_option maxHeartbeats 1000000
set_option maxRecDepth 10000
attribute [local irreducible] HC HL HQ HX HO At Y YV Opd Opds KnX Sl Ld Src GV RV Calls Code.wp eptr adr RdF ownF OneX HG LdC
theorem take_filter_step {α : Type} {xs : List α} {k : Nat} {x : α} (p : α → Bool) (hx : xs[k]? = some x) : (xs.take (k + 1)).filter p = (xs.take k).filter p ++ if p x = true then [x] else [] := by
  rw [List.take_add_one, hx, List.filter_append]
  by_cases h : p x = true <;> simp [h]
theorem filter_len {α : Type} (p : α → Bool) (xs : List α) (k : Nat) : ((xs.take k).filter p).length ≤ k := by
  have h1 := List.length_filter_le p (xs.take k)
  have h2 := List.length_take_le k xs
  omega
theorem posG_iff {xs : List Pg} {x y : Pg} {k : Nat} (hn : xs.Nodup) (hy : xs[k]? = some y) : (k : Int) = posG xs x ↔ y = x := by
  by_cases hm : x ∈ xs
  · obtain ⟨i, hi⟩ := List.getElem?_of_mem hm
    have hp : posG xs x = i := posG_some hi (fun z hz e => by
      obtain ⟨j, hj, ez⟩ := List.mem_take_iff_getElem.1 hz
      have : xs[j]? = some x := by rw [List.getElem?_eq_getElem (by omega), ez, e]
      have := nd_idx hn this hi
      omega)
    rw [hp]
    constructor
    · intro e
      have : k = i := by omega
      subst this
      rw [hi] at hy; injection hy with hy; exact hy.symm
    · intro e
      subst e
      have := nd_idx hn hy hi
      omega
  · rw [posG_none hm]
    constructor
    · intro h; omega
    · intro e; subst e; exact absurd (List.mem_of_getElem? hy) hm
theorem pre_one {v : Value} {k : Nat} (h : v.oneCell' = true) : (pre v k).oneCell' = true := by cases v <;> first | rfl | exact h
theorem calls_svm {P : Program} {α : Type} [Flat α] {f : FuncId} {args : Array Value} {w : World} {e : TypeId} {xs : List α} {mk : Value → Value} {Kr : List Ck} (h : Calls P f args w (Ret mk (fun v => ownF e v xs :: Kr) w)) :
    Calls P f args w (Ret (fun s : Sv => mk (.slice s.a s.n s.c)) (fun s => ownF e (.slice s.a s.n s.c) xs :: Kr) w) := h.mono fun en w' ⟨v, he, hk⟩ => by
  obtain ⟨s, rfl⟩ := ownF_sv (List.mem_cons_self) hk
  exact ⟨s, he, hk⟩
theorem c_l5Use {z : Int} {A : Option Addr} {n c : Nat} {xs : List Pg} {l a : Int} (w : World) (hn : xs.Nodup) (hz : 0 ≤ z ∧ z ≤ 1048576) (hr : RdF w (.slice A n c) xs := by exact rdA) (hx : xs.length ≤ 1048576 := by omega) :
    Calls Tryz.prog 156 #[.agg #[.int .i64 z, .slice A n c], .agg #[.int .i64 l, .int .i64 a]] w (Ret (fun s : Sv => .tuple #[.agg #[.int .i64 z, .slice s.a s.n s.c], .bool (decide ((⟨l, a⟩ : Pg) ∈ xs))]) (fun s => [ownF 63 (.slice s.a s.n s.c) (useP ⟨z, xs⟩ ⟨l, a⟩).l]) w) := by
  refine calls_svm (mk := fun v => .tuple #[.agg #[.int .i64 z, v], .bool (decide ((⟨l, a⟩ : Pg) ∈ xs))]) (Kr := []) ?_
  refine enter (args := _) Tryz.func156 rfl Tryz.ntmps156 (by simp) ?_
  repeat' (first | refine E.st ?_ | refine E.cl (h := fun _ w _ => c_l5At w) (k := ?_)  | refine E.q3 ?_ | refine E.q ?_ | refine E.qs ?_ | refine E.q2 ?_ | refine E.q4 ?_ | refine E.tr ?_ | refine E.ap (fun _ _ => ?_) | refine E.b1 (fun _ _ => ?_) | refine E.b0 (fun _ _ => ?_) | refine E.bsn (fun _ _ => ?_) | refine E.mk (fun _ _ => ?_) | refine E.bxO (fun _ => ?_) | refine E.al (fun _ => ?_) | refine E.sbO ?_ | refine E.dq ?_ | refine E.ct ?_ | refine E.cf ?_ | refine E.cs (fun hh => ?_) (fun hh => ?_) | refine E.at_block_other rfl ?_)
  rename_i v1 h1
  refine lq (fun p : Nat × Value => p.1 ≤ xs.length ∧ p.2.oneCell' = true) (fun p => [(6, .pl p.2), (8, .pl (.int .i64 (p.1 : Int)))]) (fun p => [ownF 63 p.2 ((⟨l, a⟩ : Pg) :: (xs.take p.1).filter (fun y => !decide (y = ⟨l, a⟩)))]) (fun p => xs.length - p.1) (0, v1) ⟨Nat.zero_le _, h1⟩ (fun p hp => ?_) (hK := Spl.ownF pk (by simp) (Spl.nil _))
  obtain ⟨k, v⟩ := p
  obtain ⟨hk, hv⟩ := hp
  dsimp only at hk hv ⊢
  have hfl := filter_len (fun y => !decide (y = (⟨l, a⟩ : Pg))) xs k
  rcases Nat.lt_or_ge k xs.length with hlt | hge
  · obtain ⟨y, hy⟩ := get_lt hlt
    have hst := take_filter_step (fun y => !decide (y = (⟨l, a⟩ : Pg))) hy
    have hpi := posG_iff (x := ⟨l, a⟩) hn hy
    repeat' (first | refine E.st ?_ | refine E.q3 ?_ | refine E.q ?_ | refine E.qs ?_ | refine E.q2 ?_ | refine E.q4 ?_ | refine E.tr ?_ | refine E.ap (fun _ _ => ?_) | refine E.b1 (fun _ _ => ?_) | refine E.b0 (fun _ _ => ?_) | refine E.bsn (fun _ _ => ?_) | refine E.mk (fun _ _ => ?_) | refine E.bxO (fun _ => ?_) | refine E.al (fun _ => ?_) | refine E.sbO ?_ | refine E.dq ?_ | refine E.ct ?_ | refine E.cf ?_ | refine E.cs (fun hh => ?_) (fun hh => ?_) | refine E.at_block_other rfl ?_)
    · rename_i v2 h2
      refine rd (k + 1, v2) ⟨by dsimp only; omega, h2⟩ (hK := KSub.ownF pk ?_ ks)
      have : ¬ y = ⟨l, a⟩ := fun e => hh (hpi.2 e)
      rw [hst, if_pos (by simpa using this)]
      rfl
    · refine rd (k + 1, v) ⟨by dsimp only; omega, hv⟩ (hK := KSub.ownF pk ?_ ks)
      have : y = ⟨l, a⟩ := hpi.1 hh
      rw [hst, if_neg (by simpa using this)]
      simp
  · rw [List.take_of_length_le hge] at hfl ⊢
    have hd : decide (0 ≤ posG xs ⟨l, a⟩) = decide ((⟨l, a⟩ : Pg) ∈ xs) := by rw [decide_eq_decide]; exact posG_neg
    have hpo := pre_one (k := z.toNat) hv
    repeat' (first | refine E.st ?_ | refine E.spre ?_ | refine E.q3 ?_ | refine E.q ?_ | refine E.qs ?_ | refine E.q2 ?_ | refine E.q4 ?_ | refine E.tr ?_ | refine E.ap (fun _ _ => ?_) | refine E.b1 (fun _ _ => ?_) | refine E.b0 (fun _ _ => ?_) | refine E.bsn (fun _ _ => ?_) | refine E.mk (fun _ _ => ?_) | refine E.bxO (fun _ => ?_) | refine E.al (fun _ => ?_) | refine E.sbO ?_ | refine E.dq ?_ | refine E.ct ?_ | refine E.cf ?_ | refine E.cs (fun hh => ?_) (fun hh => ?_) | refine E.at_block_other rfl ?_)
    · refine rn (pre v z.toNat) (hv := by rw [← hd]) (hK := KSub.ownF pk ?_ (KSub.nil _))
      rfl
    · refine rn v (hv := by rw [← hd]) (hK := KSub.ownF pk ?_ (KSub.nil _))
      simp only [useP]
      rw [List.take_of_length_le (by simp only [List.length_cons] at *; omega)]
end E
end Go.Proofs.YtpiiapoafmnhhaaGreat
/- The draws: numbers, labels, nodes. -/
namespace Go.Proofs.YtpiiapoafmnhhaaGreat
namespace E
open Go Go.RowKit
set_option linter.unusedSimpArgs false
set_option linter.unusedVariables false
set_option maxHeartbeats 1000000
set_option maxRecDepth 10000
attribute [local irreducible] HC HL HQ HX HO At Y YV Opd Opds KnX Sl Ld Src GV RV Calls Code.wp eptr adr RdF ownF OneX HG LdC
instance : ElT Tryz.prog 5 UInt8 := ⟨trivial⟩
theorem get_at {α : Type} {xs : List α} {i : Int} (h0 : 0 ≤ i) (h : i < xs.length) : ∃ x, xs[i.toNat]? = some x := get_lt (by omega)
theorem tmod_lt {a b : Int} (ha : 0 ≤ a) (hb : 0 < b) : 0 ≤ a.tmod b ∧ a.tmod b < b := ⟨Int.tmod_nonneg _ ha, Int.tmod_lt_of_pos _ hb⟩
theorem tdiv_le {a b : Int} (ha : 0 ≤ a) (hb : 0 < b) : 0 ≤ a.tdiv b ∧ a.tdiv b ≤ a := ⟨Int.tdiv_nonneg ha (by omega), by rw [Int.tdiv_eq_ediv_of_nonneg ha]; exact Int.ediv_le_self _ ha⟩
theorem u8_lt (x : UInt8) : 0 ≤ (x.toNat : Int) ∧ (x.toNat : Int) < 256 := ⟨by omega, by have := x.toNat_lt; omega⟩
theorem c_pick {g : Nat} {bv : Value} {bs : List UInt8} {p : Nat} {n : Int} {w0 : World} {K : List Ck} (w : World) (hw : KOk w0 (.box g 152 [bv, .int .i64 ((p : Nat) : Int)] :: K) w) (hb : RdIn w0 K bv bs := by exact rdI) (hp : p ≤ 1000000000 := by omega) :
    Calls Tryz.prog 93 #[.pointer (some ⟨g, 0, none⟩), .int .i64 n] w (RetK (fun z : {k : Nat // (1 ≤ n → (k : Int) < n) ∧ (n < 1 → k = 0)} => .int .i64 ((z.1 : Nat) : Int)) (fun _ => .box g 152 [bv, .int .i64 ((p + 1 : Nat) : Int)] :: K) w0) := by
  have hm := (hb w hw.drop).le
  simp only [maxLen] at hm
  have hone := (hb w hw.drop).one
  refine enterK (args := _) hw Tryz.func93 rfl Tryz.ntmps93 (by simp) ?_
  rcases Nat.eq_zero_or_pos bs.length with h0 | h0
  · repeat' (first | refine E.st ?_ | refine E.q3 ?_ | refine E.q ?_ | refine E.qs ?_ | refine E.q2 ?_ | refine E.tr ?_ | refine E.ap (fun _ _ => ?_) | refine E.b1 (fun _ _ => ?_) | refine E.b0 (fun _ _ => ?_) | refine E.bsn (fun _ _ => ?_) | refine E.mk (fun _ _ => ?_) | refine E.bx (fun _ => ?_) | refine E.al (fun _ => ?_) | refine E.sb ?_ | refine E.dq ?_ | refine E.ct ?_ | refine E.cf ?_ | refine E.cs (fun hh => ?_) (fun hh => ?_) | refine E.at_block_other rfl ?_)
    · exact r1K ⟨0, by omega, fun _ => rfl⟩ (hK := KSub.box pk (by simp) (SubL.ksub subl))
  by_cases hn : n < 1
  · repeat' (first | refine E.st ?_ | refine E.q3 ?_ | refine E.q ?_ | refine E.qs ?_ | refine E.q2 ?_ | refine E.tr ?_ | refine E.ap (fun _ _ => ?_) | refine E.b1 (fun _ _ => ?_) | refine E.b0 (fun _ _ => ?_) | refine E.bsn (fun _ _ => ?_) | refine E.mk (fun _ _ => ?_) | refine E.bx (fun _ => ?_) | refine E.al (fun _ => ?_) | refine E.sb ?_ | refine E.dq ?_ | refine E.ct ?_ | refine E.cf ?_ | refine E.cs (fun hh => ?_) (fun hh => ?_) | refine E.at_block_other rfl ?_)
    exact r1K ⟨0, by omega, fun _ => rfl⟩ (hK := KSub.box pk (by simp) (SubL.ksub subl))
  by_cases hk : p < bs.length
  · obtain ⟨x, hx⟩ := get_at (xs := bs) (i := (p : Int) + 1 - 1) (by omega) (by omega)
    have hx2 := u8_lt x
    have hxw : IntKind.i64.wrap (x.toNat : Int) = x.toNat := wrap_i64_of (by omega)
    have ht := tmod_lt (a := (x.toNat : Int)) (b := n) (by omega) (by omega)
    repeat' (first | refine E.st ?_ | refine E.q3 ?_ | refine E.q ?_ | refine E.qs ?_ | refine E.q2 ?_ | refine E.tr ?_ | refine E.ap (fun _ _ => ?_) | refine E.b1 (fun _ _ => ?_) | refine E.b0 (fun _ _ => ?_) | refine E.bsn (fun _ _ => ?_) | refine E.mk (fun _ _ => ?_) | refine E.bx (fun _ => ?_) | refine E.al (fun _ => ?_) | refine E.sb ?_ | refine E.dq ?_ | refine E.ct ?_ | refine E.cf ?_ | refine E.cs (fun hh => ?_) (fun hh => ?_) | refine E.at_block_other rfl ?_)
    refine r1K ⟨((x.toNat : Int).tmod n).toNat, by omega, by omega⟩ (hv := ?_) (hK := KSub.box pk (by simp) (SubL.ksub subl))
    simp only [hxw, Int.toNat_of_nonneg ht.1]
  · have hl : (0 : Int) < bs.length := by omega
    have t1 := tmod_lt (a := (p : Int) + 1 - 1) (b := (bs.length : Int)) (by omega) hl
    have t2 := tmod_lt (a := ((p : Int) + 1 - 1) * 7 + 3) (b := (bs.length : Int)) (by omega) hl
    have t3 := tdiv_le (a := (p : Int) + 1 - 1) (b := (bs.length : Int)) (by omega) hl
    obtain ⟨x, hx⟩ := get_at (xs := bs) t1.1 t1.2
    obtain ⟨y, hy⟩ := get_at (xs := bs) t2.1 t2.2
    have hx2 := u8_lt x
    have hy2 := u8_lt y
    have hxw : IntKind.i64.wrap (x.toNat : Int) = x.toNat := wrap_i64_of (by omega)
    have hyw : IntKind.i64.wrap (y.toNat : Int) = y.toNat := wrap_i64_of (by omega)
    repeat' (first | refine E.st ?_ | refine E.q3 ?_ | refine E.q ?_ | refine E.qs ?_ | refine E.q2 ?_ | refine E.tr ?_ | refine E.ap (fun _ _ => ?_) | refine E.b1 (fun _ _ => ?_) | refine E.b0 (fun _ _ => ?_) | refine E.bsn (fun _ _ => ?_) | refine E.mk (fun _ _ => ?_) | refine E.bx (fun _ => ?_) | refine E.al (fun _ => ?_) | refine E.sb ?_ | refine E.dq ?_ | refine E.ct ?_ | refine E.cf ?_ | refine E.cs (fun hh => ?_) (fun hh => ?_) | refine E.at_block_other rfl ?_)
    have e1 : IntKind.i64.wrap (IntKind.i64.wrap (((p : Int) + 1 - 1).tdiv (bs.length : Int)) * 53) = ((p : Int) + 1 - 1).tdiv (bs.length : Int) * 53 := by
      rw [wrap_i64_of (z := ((p : Int) + 1 - 1).tdiv (bs.length : Int)) (by omega), wrap_i64_of (by omega)]
    obtain ⟨X, hX⟩ : ∃ X : Int, IntKind.i64.wrap (IntKind.i64.wrap (x.toNat : Int) * 131 + IntKind.i64.wrap (y.toNat : Int) * 1117 + ((p : Int) + 1 - 1) * 29 + IntKind.i64.wrap (IntKind.i64.wrap (((p : Int) + 1 - 1).tdiv (bs.length : Int)) * 53)) = X := ⟨_, rfl⟩
    have hXb : 0 ≤ X ∧ X < 1000000000000 := by
      rw [hxw, hyw, e1, wrap_i64_of (by omega)] at hX
      omega
    have t4 := tdiv_le (a := X) (b := 64) hXb.1 (by omega)
    have e3 : IntKind.i64.wrap (X.tdiv 64) = X.tdiv 64 := wrap_i64_of (by omega)
    obtain ⟨v, hv, v0, v1⟩ := run_xor (P := Tryz.prog) (i := X) (j := IntKind.i64.wrap (X.tdiv 64)) (by omega) (by rw [e3]; omega)
    have ht := tmod_lt (a := v) (b := n) v0 (by omega)
    rw [hX]
    refine E.qy (hy := y_bits (Or.inr (Or.inr (Or.inl rfl))) (Opd.pl rfl) (Opd.pl rfl) hv) (hr := ?_)
    repeat' (first | refine E.st ?_ | refine E.q3 ?_ | refine E.q ?_ | refine E.qs ?_ | refine E.q2 ?_ | refine E.q4 ?_ | refine E.tr ?_ | refine E.ap (fun _ _ => ?_) | refine E.b1 (fun _ _ => ?_) | refine E.b0 (fun _ _ => ?_) | refine E.bsn (fun _ _ => ?_) | refine E.mk (fun _ _ => ?_) | refine E.bxO (fun _ => ?_) | refine E.al (fun _ => ?_) | refine E.sbO ?_ | refine E.dq ?_ | refine E.ct ?_ | refine E.cf ?_ | refine E.cs (fun hh => ?_) (fun hh => ?_) | refine E.at_block_other rfl ?_)
    refine r1K ⟨(v.tmod n).toNat, by omega, by omega⟩ (hv := ?_) (hK := KSub.box pk (by simp) (SubL.ksub subl))
    simp only [Int.toNat_of_nonneg ht.1]
end E
end Go.Proofs.YtpiiapoafmnhhaaGreat
/- The draws: one of a list, labels, nodes, edges. -/
namespace Go.Proofs.YtpiiapoafmnhhaaGreat
namespace E
open Go Go.RowKit
set_option linter.unusedSimpArgs false
set_option linter.unusedVariables false
set_option maxHeartbeats 1000000
set_option maxRecDepth 10000
attribute [local irreducible] HC HL HQ HX HO At Y YV Opd Opds KnX Sl Ld Src GV RV Calls Code.wp eptr adr RdF ownF OneX HG LdC
theorem c_num {g : Nat} {bv v : Value} {bs : List UInt8} {xs : List Int} {p : Nat} {w0 : World} {K : List Ck} (w : World) (hw : KOk w0 (.box g 152 [bv, .int .i64 ((p : Nat) : Int)] :: K) w) (hb : RdIn w0 K bv bs := by exact rdI) (hr : RdIn w0 K v xs := by exact rdI) (h0 : 0 < xs.length := by decide) (hp : p ≤ 1000000000 := by omega) :
    Calls Tryz.prog 130 #[.pointer (some ⟨g, 0, none⟩), v] w (RetK (fun z : {k : Int // k ∈ xs} => .int .i64 z.1) (fun _ => .box g 152 [bv, .int .i64 ((p + 1 : Nat) : Int)] :: K) w0) := by
  have hm := (hr w hw.drop).le
  simp only [maxLen] at hm
  refine enterK (args := _) hw Tryz.func130 rfl Tryz.ntmps130 (by simp) ?_
  repeat' (first | refine E.st ?_ | refine E.ckq (h := fun w hw => c_pick w hw) (k := fun z => E.wx (get_lt (xs := xs) (k := z.1) (by have := z.2.1; omega)) (fun x hx => ?_)) | refine E.q3 ?_ | refine E.q ?_ | refine E.qs ?_ | refine E.q2 ?_ | refine E.q4 ?_ | refine E.tr ?_ | refine E.ap (fun _ _ => ?_) | refine E.b1 (fun _ _ => ?_) | refine E.b0 (fun _ _ => ?_) | refine E.bsn (fun _ _ => ?_) | refine E.mk (fun _ _ => ?_) | refine E.bxO (fun _ => ?_) | refine E.al (fun _ => ?_) | refine E.sbO ?_ | refine E.dq ?_ | refine E.ct ?_ | refine E.cf ?_ | refine E.cs (fun hh => ?_) (fun hh => ?_) | refine E.at_block_other rfl ?_)
  exact r1K ⟨_, List.mem_of_getElem? (by assumption)⟩
theorem c_l2Node {g : Nat} {bv : Value} {bs : List UInt8} {p : Nat} {w0 : World} {K : List Ck} (w : World) (hw : KOk w0 (.box g 152 [bv, .int .i64 ((p : Nat) : Int)] :: K) w) (hb : RdIn w0 K bv bs := by exact rdI) (hp : p ≤ 999999990 := by omega) :
    Calls Tryz.prog 132 #[.pointer (some ⟨g, 0, none⟩)] w (RetK (fun z : { x : Nd // nok x = true } => .agg #[.int .i64 z.1.l, .int .i64 z.1.n]) (fun _ => .box g 152 [bv, .int .i64 ((p + 2 : Nat) : Int)] :: K) w0) := by
  refine enterK (args := _) hw Tryz.func132 rfl Tryz.ntmps132 (by simp) ?_
  repeat' (first | refine E.st ?_ | refine E.ckq (h := fun w hw => c_num w hw (xs := [0, 1, 2, 3, 0, 1, 4, 7])) (k := fun z1 => ?_) | refine E.ckq (h := fun w hw => c_num w hw (xs := [0, 1, 2, 3, 40])) (k := fun z2 => ?_) | refine E.q3 ?_ | refine E.q ?_ | refine E.qs ?_ | refine E.q2 ?_ | refine E.q4 ?_ | refine E.tr ?_ | refine E.ap (fun _ _ => ?_) | refine E.b1 (fun _ _ => ?_) | refine E.b0 (fun _ _ => ?_) | refine E.bsn (fun _ _ => ?_) | refine E.mk (fun _ _ => ?_) | refine E.bxO (fun _ => ?_) | refine E.al (fun _ => ?_) | refine E.sbO ?_ | refine E.dq ?_ | refine E.ct ?_ | refine E.cf ?_ | refine E.cs (fun hh => ?_) (fun hh => ?_) | refine E.at_block_other rfl ?_)
  refine r1K (α := { x : Nd // nok x = true }) ⟨⟨z1.1, z2.1⟩, ?_⟩
  have h1 := z1.2
  have h2 := z2.2
  simp only [List.mem_cons, List.mem_nil_iff, or_false] at h1 h2
  rw [nok_iff]
  dsimp only
  omega
theorem c_l1Mix {a b : Int} {m : Bool} (w : World) : Calls Tryz.prog 196 #[.int .i64 a, .int .i64 b, .bool m] w (Ret (fun z : { z : Int // 0 ≤ z ∧ z ≤ 7 } => .int .i64 z.1) (fun _ => []) w) := by
  refine enter (args := _) Tryz.func196 rfl Tryz.ntmps196 (by simp) ?_
  repeat' (first | refine E.st ?_ | refine E.q3 ?_ | refine E.q ?_ | refine E.qs ?_ | refine E.q2 ?_ | refine E.q4 ?_ | refine E.tr ?_ | refine E.ap (fun _ _ => ?_) | refine E.b1 (fun _ _ => ?_) | refine E.b0 (fun _ _ => ?_) | refine E.bsn (fun _ _ => ?_) | refine E.mk (fun _ _ => ?_) | refine E.bxO (fun _ => ?_) | refine E.al (fun _ => ?_) | refine E.sbO ?_ | refine E.dq ?_ | refine E.ct ?_ | refine E.cf ?_ | refine E.cs (fun hh => ?_) (fun hh => ?_) | refine E.at_block_other rfl ?_)
  refine lq (fun p : Nat × Nat => p.1 ≤ 3 ∧ p.2 < 2 ^ p.1) (fun p => [(7, .pl (.int .i64 (p.2 : Int))), (8, .pl (.int .i64 (2 - (p.1 : Int))))]) (fun _ => []) (fun p => 3 - p.1) (0, 0) ⟨by omega, by simp⟩ (fun p hp => ?_)
  obtain ⟨k, z⟩ := p
  obtain ⟨hk, hz⟩ := hp
  dsimp only at hk hz ⊢
  have hz8 : z < 8 := Nat.lt_of_lt_of_le hz (Nat.pow_le_pow_right (by omega) hk)
  have hp2 : 2 ^ (k + 1) = 2 * 2 ^ k := by rw [Nat.pow_succ]; omega
  rcases Nat.lt_or_ge k 3 with hlt | hge
  · repeat' (first | refine E.st ?_ | refine E.cl (h := fun _ w _ => c_s_l1Has w) (k := ?_)  | refine E.q3 ?_ | refine E.q ?_ | refine E.qs ?_ | refine E.q2 ?_ | refine E.q4 ?_ | refine E.tr ?_ | refine E.ap (fun _ _ => ?_) | refine E.b1 (fun _ _ => ?_) | refine E.b0 (fun _ _ => ?_) | refine E.bsn (fun _ _ => ?_) | refine E.mk (fun _ _ => ?_) | refine E.bxO (fun _ => ?_) | refine E.al (fun _ => ?_) | refine E.sbO ?_ | refine E.dq ?_ | refine E.ct ?_ | refine E.cf ?_ | refine E.cs (fun hh => ?_) (fun hh => ?_) | refine E.at_block_other rfl ?_)
    · exact rd (k + 1, z * 2 + 1) ⟨by dsimp only; omega, by dsimp only; omega⟩
    · exact rd (k + 1, z * 2) ⟨by dsimp only; omega, by dsimp only; omega⟩
  · repeat' (first | refine E.st ?_ | refine E.q3 ?_ | refine E.q ?_ | refine E.qs ?_ | refine E.q2 ?_ | refine E.q4 ?_ | refine E.tr ?_ | refine E.ap (fun _ _ => ?_) | refine E.b1 (fun _ _ => ?_) | refine E.b0 (fun _ _ => ?_) | refine E.bsn (fun _ _ => ?_) | refine E.mk (fun _ _ => ?_) | refine E.bxO (fun _ => ?_) | refine E.al (fun _ => ?_) | refine E.sbO ?_ | refine E.dq ?_ | refine E.ct ?_ | refine E.cf ?_ | refine E.cs (fun hh => ?_) (fun hh => ?_) | refine E.at_block_other rfl ?_)
    exact r1 (α := { z : Int // 0 ≤ z ∧ z ≤ 7 }) ⟨(z : Int), by omega, by omega⟩
end E
end Go.Proofs.YtpiiapoafmnhhaaGreat
/- The draws: edges. -/
namespace Go.Proofs.YtpiiapoafmnhhaaGreat
namespace E
open Go Go.RowKit
set_option linter.unusedSimpArgs false
set_option linter.unusedVariables false
set_option maxHeartbeats 1000000
set_option maxRecDepth 10000
attribute [local irreducible] HC HL HQ HX HO At Y YV Opd Opds KnX Sl Ld Src GV RV Calls Code.wp eptr adr RdF ownF OneX HG LdC
theorem c_l2Edge {g : Nat} {bv : Value} {bs : List UInt8} {p : Nat} {w0 : World} {K : List Ck} {v u : Value} {ns : List Nd} (w : World) (hw : KOk w0 (.box g 152 [bv, .int .i64 ((p : Nat) : Int)] :: K) w) (hb : RdIn w0 K bv bs := by exact rdI) (hn : RdIn w0 K v ns := by exact rdI) (hp : p ≤ 999999900 := by omega) :
    Calls Tryz.prog 158 #[.pointer (some ⟨g, 0, none⟩), .agg #[v, u]] w (RetK (fun z : Eg × { q : Nat // p ≤ q ∧ q ≤ p + 10 } => .agg #[.int .i64 z.1.l, .int .i64 z.1.a.l, .int .i64 z.1.a.n, .int .i64 z.1.b.l, .int .i64 z.1.b.n]) (fun z => .box g 152 [bv, .int .i64 ((z.2.1 : Nat) : Int)] :: K) w0) := by
  have m1 := (hn w hw.drop).le
  simp only [maxLen] at m1
  by_cases h1 : 1 < ns.length
  · refine enterK (args := _) hw Tryz.func158 rfl Tryz.ntmps158 (by simp) ?_
    repeat' (first | refine E.st ?_ | refine E.ug ?_ | refine E.dxp g [0, 1, 2, 3, 4, 5, 6, 7, 8, 9] ?_ | refine E.ckq (h := fun w hw => c_l2Node w hw) (k := fun z1 => ?_) | refine E.ckq (h := fun w hw => c_pick w hw) (k := fun z => E.wx (get_lt (xs := ns) (k := z.1) (by have := z.2.1; omega)) (fun x hx => ?_)) | refine E.ckq (h := fun w hw => c_pick w hw) (k := fun z2 => ?_) | refine E.cm (h := fun w _ => c_l1Mix w) (k := fun z3 => ?_) | refine E.ckq (h := fun w hw => c_num w hw (xs := [0, 0, 0, 1, 2, 4])) (k := fun z4 => ?_) | refine E.cl (h := fun _ w _ => c_s_l2Code w) (k := ?_)  | refine E.q3 ?_ | refine E.q ?_ | refine E.qs ?_ | refine E.q2 ?_ | refine E.q4 ?_ | refine E.tr ?_ | refine E.ap (fun _ _ => ?_) | refine E.b1 (fun _ _ => ?_) | refine E.b0 (fun _ _ => ?_) | refine E.bsn (fun _ _ => ?_) | refine E.mk (fun _ _ => ?_) | refine E.bxO (fun _ => ?_) | refine E.al (fun _ => ?_) | refine E.sbO ?_ | refine E.dq ?_ | refine E.ct ?_ | refine E.cf ?_ | refine E.cs (fun hh => ?_) (fun hh => ?_) | refine E.at_block_other rfl ?_)
    all_goals (refine r1K (α := Eg × { q : Nat // p ≤ q ∧ q ≤ p + 10 }) (⟨_, ⟨_, _⟩, ⟨_, _⟩⟩, ⟨_, ?_⟩); omega)
  · refine enterK (args := _) hw Tryz.func158 rfl Tryz.ntmps158 (by simp) ?_
    repeat' (first | refine E.st ?_ | refine E.sk ?_ | refine E.ckq (h := fun w hw => c_l2Node w hw) (k := fun z1 => ?_) | refine E.cm (h := fun w _ => c_l1Mix w) (k := fun z3 => ?_) | refine E.ckq (h := fun w hw => c_num w hw (xs := [0, 0, 0, 1, 2, 4])) (k := fun z4 => ?_) | refine E.cl (h := fun _ w _ => c_s_l2Code w) (k := ?_)  | refine E.q3 ?_ | refine E.q ?_ | refine E.qs ?_ | refine E.q2 ?_ | refine E.q4 ?_ | refine E.tr ?_ | refine E.ap (fun _ _ => ?_) | refine E.b1 (fun _ _ => ?_) | refine E.b0 (fun _ _ => ?_) | refine E.bsn (fun _ _ => ?_) | refine E.mk (fun _ _ => ?_) | refine E.bxO (fun _ => ?_) | refine E.al (fun _ => ?_) | refine E.sbO ?_ | refine E.dq ?_ | refine E.ct ?_ | refine E.cf ?_ | refine E.cs (fun hh => ?_) (fun hh => ?_) | refine E.at_block_other rfl ?_)
    all_goals (refine r1K (α := Eg × { q : Nat // p ≤ q ∧ q ≤ p + 10 }) (⟨_, ⟨_, _⟩, ⟨_, _⟩⟩, ⟨_, ?_⟩); omega)
end E
end Go.Proofs.YtpiiapoafmnhhaaGreat
/- What is done to a graph, as the reference says it. -/
namespace Go.Proofs.YtpiiapoafmnhhaaGreat
namespace E
open Go Go.RowKit
set_option linter.unusedSimpArgs false
set_option linter.unusedVariables false
set_option maxHeartbeats 1000000
set_option maxRecDepth 10000
attribute [local irreducible] HC HL HQ HX HO At Y YV Opd Opds KnX Sl Ld Src GV RV Calls Code.wp eptr adr RdF ownF OneX HG LdC
theorem get_gd {α : Type} {xs : List α} {k : Nat} {d : α} : decide ((k : Int) < (xs.length : Int)) = true → xs[k]? = some (xs.getD k d) := fun h => by
  have : k < xs.length := by simpa using h
  simp [List.getD_eq_getElem?_getD, this]
theorem eg_ne' {x : Eg} {l al an bl bn : Int} : ¬ [x.l, x.a.l, x.a.n, x.b.l, x.b.n] = [l, al, an, bl, bn] ↔ x ≠ ⟨l, ⟨al, an⟩, ⟨bl, bn⟩⟩ := by
  cases x; rename_i l a b; cases a; cases b; simp
theorem c_l2EdgeAt {v u : Value} {es : List Eg} {l al an bl bn : Int} (w : World) (hr : RdF w u es := by exact rdA) : Calls Tryz.prog 204 #[.agg #[v, u], .agg #[.int .i64 l, .int .i64 al, .int .i64 an, .int .i64 bl, .int .i64 bn]] w (Ret (fun _ : Unit => .int .i64 (posG es ⟨l, ⟨al, an⟩, ⟨bl, bn⟩⟩)) (fun _ => []) w) := by
  have m1 := hr.le
  have o1 := hr.one
  simp only [maxLen] at m1
  refine enter (args := _) Tryz.func204 rfl Tryz.ntmps204 (by simp) ?_
  repeat' (first | refine E.st ?_ | refine E.q3 ?_ | refine E.q ?_ | refine E.qs ?_ | refine E.q2 ?_ | refine E.q4 ?_ | refine E.tr ?_ | refine E.ap (fun _ _ => ?_) | refine E.b1 (fun _ _ => ?_) | refine E.b0 (fun _ _ => ?_) | refine E.bsn (fun _ _ => ?_) | refine E.mk (fun _ _ => ?_) | refine E.bxO (fun _ => ?_) | refine E.al (fun _ => ?_) | refine E.sbO ?_ | refine E.dq ?_ | refine E.ct ?_ | refine E.cf ?_ | refine E.cs (fun hh => ?_) (fun hh => ?_) | refine E.at_block_other rfl ?_)
  refine lq (fun k : Nat => k ≤ es.length ∧ ∀ y ∈ es.take k, y ≠ ⟨l, ⟨al, an⟩, ⟨bl, bn⟩⟩) (fun k => [(5, .pl (.int .i64 (k : Int)))]) (fun _ => []) (fun k => es.length - k) 0 ⟨Nat.zero_le _, by simp⟩ (fun k hk0 => ?_)
  obtain ⟨hk1, hk2⟩ := hk0
  rcases Nat.lt_or_ge k es.length with hlt | hge
  · obtain ⟨x, hx⟩ := get_lt hlt
    repeat' (first | refine E.st ?_ | refine E.q3 ?_ | refine E.q ?_ | refine E.qs ?_ | refine E.q2 ?_ | refine E.q4 ?_ | refine E.tr ?_ | refine E.ap (fun _ _ => ?_) | refine E.b1 (fun _ _ => ?_) | refine E.b0 (fun _ _ => ?_) | refine E.bsn (fun _ _ => ?_) | refine E.mk (fun _ _ => ?_) | refine E.bxO (fun _ => ?_) | refine E.al (fun _ => ?_) | refine E.sbO ?_ | refine E.dq ?_ | refine E.ct ?_ | refine E.cf ?_ | refine E.cs (fun hh => ?_) (fun hh => ?_) | refine E.at_block_other rfl ?_)
    · refine ri ?_
      have : x = ⟨l, ⟨al, an⟩, ⟨bl, bn⟩⟩ := Decidable.not_not.1 (fun h => eg_ne'.2 h hh)
      rw [posG_some (by rw [hx, this]) hk2]
    · exact rd (k + 1) ⟨by omega, all_step hk2 hx (eg_ne'.1 hh)⟩
  · repeat' (first | refine E.st ?_ | refine E.q3 ?_ | refine E.q ?_ | refine E.qs ?_ | refine E.q2 ?_ | refine E.q4 ?_ | refine E.tr ?_ | refine E.ap (fun _ _ => ?_) | refine E.b1 (fun _ _ => ?_) | refine E.b0 (fun _ _ => ?_) | refine E.bsn (fun _ _ => ?_) | refine E.mk (fun _ _ => ?_) | refine E.bxO (fun _ => ?_) | refine E.al (fun _ => ?_) | refine E.sbO ?_ | refine E.dq ?_ | refine E.ct ?_ | refine E.cf ?_ | refine E.cs (fun hh => ?_) (fun hh => ?_) | refine E.at_block_other rfl ?_)
    refine ri ?_
    rw [List.take_of_length_le hge] at hk2
    rw [posG_none (fun h => hk2 _ h rfl)]
theorem c_l2Copy {v u : Value} {ns : List Nd} {es : List Eg} (w : World) (hr : RdF w v ns := by exact rdA) (hq : RdF w u es := by exact rdA) (hn : ns.length ≤ 1048576 := by omega) (he : es.length ≤ 1048576 := by omega) :
    Calls Tryz.prog 116 #[.agg #[v, u]] w (Ret (fun z : { p : Value × Value // p.1.oneCell' = true ∧ p.2.oneCell' = true } => .agg #[z.1.1, z.1.2]) (fun z => [ownF 32 z.1.1 ns, ownF 84 z.1.2 es]) w) := by
  have o1 := hr.one
  have o2 := hq.one
  refine enter (args := _) Tryz.func116 rfl Tryz.ntmps116 (by simp) ?_
  repeat' (first | refine E.st ?_ | refine E.dx [1, 2, 5, 6, 0, 3, 4, 7, 8, 9] ?_ | refine E.br2 (i := 0) (j := 4) ?_ ?_ | refine E.br2 (i := 3) (j := 4) ?_ ?_ | refine E.q3 ?_ | refine E.q ?_ | refine E.qs ?_ | refine E.q2 ?_ | refine E.q4 ?_ | refine E.tr ?_ | refine E.ap (fun _ _ => ?_) | refine E.b1 (fun _ _ => ?_) | refine E.b0 (fun _ _ => ?_) | refine E.bsn (fun _ _ => ?_) | refine E.mk (fun _ _ => ?_) | refine E.bxO (fun _ => ?_) | refine E.al (fun _ => ?_) | refine E.sbO ?_ | refine E.dq ?_ | refine E.ct ?_ | refine E.cf ?_ | refine E.cs (fun hh => ?_) (fun hh => ?_) | refine E.at_block_other rfl ?_)
  all_goals (refine r1 (α := { p : Value × Value // p.1.oneCell' = true ∧ p.2.oneCell' = true }) ⟨(_, _), ?_⟩ (hK := KSub.ownF pk (by simp) (KSub.ownF pk (by simp) (KSub.nil _))); exact ⟨by assumption, by assumption⟩)
def putN (ns : List Nd) (n : Nd) : List Nd := ns.takeWhile (fun x => decide (cd x < cd n)) ++ n :: ns.dropWhile (fun x => decide (cd x < cd n))
def putE (es : List Eg) (e : Eg) : List Eg := es.takeWhile (fun x => lessE x e) ++ e :: es.dropWhile (fun x => lessE x e)
theorem while_at {α : Type} (p : α → Bool) : ∀ (xs : List α) (k : Nat), k ≤ xs.length → (∀ (i : Nat) x, i < k → xs[i]? = some x → p x = true) → (∀ x, xs[k]? = some x → p x = false) → xs.takeWhile p = xs.take k ∧ xs.dropWhile p = xs.drop k
  | [], k, _, _, _ => by simp
  | x :: xs, 0, _, _, h => by
    have := h x rfl
    simp [this]
  | x :: xs, k + 1, hk, h1, h2 => by
    have hx := h1 0 x (by omega) rfl
    obtain ⟨a, b⟩ := while_at p xs k (by simpa using hk) (fun i y hi hy => h1 (i + 1) y (by omega) (by simpa using hy)) (fun y hy => h2 y (by simpa using hy))
    simp [hx, a, b]
theorem putN_ins {ns : List Nd} {n : Nd} (h : Ord ns) : putN ns n = insN ns n := by
  obtain ⟨m, m1, m2, m3⟩ := parts cd ns (cd n) h.2
  obtain ⟨a, b⟩ := filter_split (fun y => decide (cd y < cd n)) ns m m1 (fun i x hx hi => by simp [m2 i x hx hi]) (fun i x hx hi => by have := m3 i x hx hi; simp; omega)
  obtain ⟨c, d⟩ := while_at (fun y => decide (cd y < cd n)) ns m m1 (fun i x hi hx => by simp [m2 i x hx hi]) (fun x hx => by have := m3 m x hx (Nat.le_refl _); simp; omega)
  unfold putN insN
  rw [a, b, c, d]
theorem putE_ins {ns : List Nd} {es : List Eg} {e : Eg} (h : EOk ns es) (he : eok e = true) : putE es e = insE es e := by
  obtain ⟨m, m1, m2, m3⟩ := parts ekey es (ekey e) h.2.1
  have hl : ∀ (i : Nat) x, es[i]? = some x → (lessE x e = true ↔ ekey x < ekey e) := fun i x hx => lessE_key (h.1 x (List.mem_of_getElem? hx)).1 he
  obtain ⟨a, b⟩ := filter_split (fun y => decide (ekey y < ekey e)) es m m1 (fun i x hx hi => by simp [m2 i x hx hi]) (fun i x hx hi => by have := m3 i x hx hi; simp; omega)
  obtain ⟨c, d⟩ := while_at (fun y => lessE y e) es m m1 (fun i x hi hx => (hl i x hx).2 (m2 i x hx hi)) (fun x hx => by
    have h1 := m3 m x hx (Nat.le_refl _)
    cases hb : lessE x e with
    | false => rfl
    | true => have := (hl m x hx).1 hb; omega)
  unfold putE insE
  rw [a, b, c, d]
theorem c_l2PutNode {v u : Value} {ns : List Nd} {l n : Int} {w0 : World} {K : List Ck} (w : World) (hw : KOk w0 (ownF 32 v ns :: K) w) (hu : u.oneCell' = true := by assumption) (hl : ns.length ≤ 1000000 := by omega) : Calls Tryz.prog 131 #[.agg #[v, u], .agg #[.int .i64 l, .int .i64 n]] w (RetK (fun z : { v' : Value // v'.oneCell' = true } => .agg #[z.1, u]) (fun z => ownF 32 z.1 (putN ns ⟨l, n⟩) :: K) w0) := by
  have hr : RdF w v ns := RdF.of_own (List.mem_cons_self) hw
  have hv := hr.one
  have hsl : IsSl v ns.length := hr.isl
  refine enterK (args := _) hw Tryz.func131 rfl Tryz.ntmps131 (by simp) ?_
  repeat' (first | refine E.st ?_ | refine E.q3 ?_ | refine E.q ?_ | refine E.qs ?_ | refine E.q2 ?_ | refine E.q4 ?_ | refine E.tr ?_ | refine E.ap (fun _ _ => ?_) | refine E.b1 (fun _ _ => ?_) | refine E.b0 (fun _ _ => ?_) | refine E.bsn (fun _ _ => ?_) | refine E.mk (fun _ _ => ?_) | refine E.bxO (fun _ => ?_) | refine E.al (fun _ => ?_) | refine E.sbO ?_ | refine E.dq ?_ | refine E.ct ?_ | refine E.cf ?_ | refine E.cs (fun hh => ?_) (fun hh => ?_) | refine E.at_block_other rfl ?_)
  refine lq (fun k : Nat => k ≤ ns.length ∧ ∀ (i : Nat) x, i < k → ns[i]? = some x → cd x < cd ⟨l, n⟩) (fun k => [(5, .pl (.int .i64 (k : Int)))]) (fun _ => []) (fun k => ns.length - k) 0 ⟨Nat.zero_le _, fun i x h => absurd h (by omega)⟩ (fun k hk0 => ?_)
  obtain ⟨hk1, hk2⟩ := hk0
  have hfin : (∀ x, ns[k]? = some x → ¬ cd x < cd ⟨l, n⟩) → ns.take k ++ ⟨l, n⟩ :: ns.drop k = putN ns ⟨l, n⟩ := fun h => by
    obtain ⟨a, b⟩ := while_at (fun x => decide (cd x < cd ⟨l, n⟩)) ns k hk1 (fun i x hi hx => by simp [hk2 i x hi hx]) (fun x hx => by simp [h x hx])
    unfold putN
    rw [a, b]
  have hdl : (ns.drop k).length = ns.length - k := by simp
  have htl : (ns.take k).length = k := by simp; omega
  have hrs : RdIn w0 (ownF 32 v ns :: K) (part v 2 k ns.length) (ns.drop k) := (RdIn.own (List.mem_cons_self)).suf hk1
  have hx := get_gd (xs := ns) (k := k) (d := ⟨0, 0⟩)
  generalize ns.getD k ⟨0, 0⟩ = x at hx
  repeat' (first | refine E.st ?_ | refine E.cl (h := fun _ w _ => c_s_l2Code w) (k := ?_) | refine E.apI (hs := RdIn.sub hrs ks) (hr := fun _ _ => ?_) | refine E.dxo v [0, 1, 2, 3, 4, 7, 5, 6, 8, 9, 10] ?_ | refine E.apP (hr := fun _ _ => ?_) | refine E.q3 ?_ | refine E.q ?_ | refine E.qs ?_ | refine E.q2 ?_ | refine E.q4 ?_ | refine E.tr ?_ | refine E.ap (fun _ _ => ?_) | refine E.b1 (fun _ _ => ?_) | refine E.b0 (fun _ _ => ?_) | refine E.bsn (fun _ _ => ?_) | refine E.mk (fun _ _ => ?_) | refine E.bxO (fun _ => ?_) | refine E.al (fun _ => ?_) | refine E.sbO ?_ | refine E.dq ?_ | refine E.ct ?_ | refine E.cf ?_ | refine E.cs (fun hh => ?_) (fun hh => ?_) | refine E.at_block_other rfl ?_)
  · refine rd (k + 1) ⟨by omega, fun i y hi hy => ?_⟩
    rcases Nat.lt_or_ge i k with h | h
    · exact hk2 i y h hy
    · have : i = k := by omega
      subst this
      rw [hx (decide_eq_true hh.1)] at hy; injection hy with hy; subst hy
      exact hh.2
  · refine r1K (α := { v' : Value // v'.oneCell' = true }) ⟨_, ?_⟩ (hK := KSub.ownF pk ?_ ks)
    · assumption
    · rw [← hfin (fun y hy => by
        have hlt := (List.getElem?_eq_some_iff.1 hy).1
        rw [hx (decide_eq_true (by omega))] at hy; injection hy with hy; subst hy
        rcases hh with h | h
        · omega
        · exact h)]
      simp
theorem c_l2PutEdge {v u : Value} {es : List Eg} {l al an bl bn : Int} {w0 : World} {K : List Ck} (w : World) (hw : KOk w0 (ownF 84 u es :: K) w) (hu : v.oneCell' = true := by assumption) (hl : es.length ≤ 1000000 := by omega) : Calls Tryz.prog 174 #[.agg #[v, u], .agg #[.int .i64 l, .int .i64 al, .int .i64 an, .int .i64 bl, .int .i64 bn]] w (RetK (fun z : { v' : Value // v'.oneCell' = true } => .agg #[v, z.1]) (fun z => ownF 84 z.1 (putE es ⟨l, ⟨al, an⟩, ⟨bl, bn⟩⟩) :: K) w0) := by
  have hr : RdF w u es := RdF.of_own (List.mem_cons_self) hw
  have hv := hr.one
  have hsl : IsSl u es.length := hr.isl
  refine enterK (args := _) hw Tryz.func174 rfl Tryz.ntmps174 (by simp) ?_
  repeat' (first | refine E.st ?_ | refine E.q3 ?_ | refine E.q ?_ | refine E.qs ?_ | refine E.q2 ?_ | refine E.q4 ?_ | refine E.tr ?_ | refine E.ap (fun _ _ => ?_) | refine E.b1 (fun _ _ => ?_) | refine E.b0 (fun _ _ => ?_) | refine E.bsn (fun _ _ => ?_) | refine E.mk (fun _ _ => ?_) | refine E.bxO (fun _ => ?_) | refine E.al (fun _ => ?_) | refine E.sbO ?_ | refine E.dq ?_ | refine E.ct ?_ | refine E.cf ?_ | refine E.cs (fun hh => ?_) (fun hh => ?_) | refine E.at_block_other rfl ?_)
  refine lq (fun k : Nat => k ≤ es.length ∧ ∀ (i : Nat) x, i < k → es[i]? = some x → lessE x ⟨l, ⟨al, an⟩, ⟨bl, bn⟩⟩ = true) (fun k => [(5, .pl (.int .i64 (k : Int)))]) (fun _ => []) (fun k => es.length - k) 0 ⟨Nat.zero_le _, fun i x h => absurd h (by omega)⟩ (fun k hk0 => ?_)
  obtain ⟨hk1, hk2⟩ := hk0
  have hfin : (∀ x, es[k]? = some x → lessE x ⟨l, ⟨al, an⟩, ⟨bl, bn⟩⟩ = false) → es.take k ++ ⟨l, ⟨al, an⟩, ⟨bl, bn⟩⟩ :: es.drop k = putE es ⟨l, ⟨al, an⟩, ⟨bl, bn⟩⟩ := fun h => by
    obtain ⟨a, b⟩ := while_at (fun x => lessE x ⟨l, ⟨al, an⟩, ⟨bl, bn⟩⟩) es k hk1 hk2 h
    unfold putE
    rw [a, b]
  have hdl : (es.drop k).length = es.length - k := by simp
  have htl : (es.take k).length = k := by simp; omega
  have hrs : RdIn w0 (ownF 84 u es :: K) (part u 5 k es.length) (es.drop k) := (RdIn.own (List.mem_cons_self)).suf hk1
  have hx := get_gd (xs := es) (k := k) (d := ⟨0, ⟨0, 0⟩, ⟨0, 0⟩⟩)
  generalize es.getD k ⟨0, ⟨0, 0⟩, ⟨0, 0⟩⟩ = x at hx
  repeat' (first | refine E.st ?_ | refine E.cl (h := fun _ w _ => c_s_l2Less w) (k := ?_) | refine E.apI (hs := RdIn.sub hrs ks) (hr := fun _ _ => ?_) | refine E.dxo u [0, 1, 2, 3, 4, 7, 5, 6, 8, 9, 10] ?_ | refine E.apP (hr := fun _ _ => ?_) | refine E.q3 ?_ | refine E.q ?_ | refine E.qs ?_ | refine E.q2 ?_ | refine E.q4 ?_ | refine E.tr ?_ | refine E.ap (fun _ _ => ?_) | refine E.b1 (fun _ _ => ?_) | refine E.b0 (fun _ _ => ?_) | refine E.bsn (fun _ _ => ?_) | refine E.mk (fun _ _ => ?_) | refine E.bxO (fun _ => ?_) | refine E.al (fun _ => ?_) | refine E.sbO ?_ | refine E.dq ?_ | refine E.ct ?_ | refine E.cf ?_ | refine E.cs (fun hh => ?_) (fun hh => ?_) | refine E.at_block_other rfl ?_)
  · refine rd (k + 1) ⟨by omega, fun i y hi hy => ?_⟩
    rcases Nat.lt_or_ge i k with h | h
    · exact hk2 i y h hy
    · have : i = k := by omega
      subst this
      rw [hx (decide_eq_true hh.1)] at hy; injection hy with hy; subst hy
      exact hh.2
  · refine r1K (α := { v' : Value // v'.oneCell' = true }) ⟨_, ?_⟩ (hK := KSub.ownF pk ?_ ks)
    · assumption
    · rw [← hfin (fun y hy => by
        have hlt := (List.getElem?_eq_some_iff.1 hy).1
        rw [hx (decide_eq_true (by omega))] at hy; injection hy with hy; subst hy
        rcases hh with h | h
        · omega
        · exact h)]
      simp
end E
end Go.Proofs.YtpiiapoafmnhhaaGreat
/- What is done to a graph, as the reference says it: the second part. -/
namespace Go.Proofs.YtpiiapoafmnhhaaGreat
namespace E
open Go Go.RowKit
set_option linter.unusedSimpArgs false
set_option linter.unusedVariables false
set_option maxHeartbeats 1000000
set_option maxRecDepth 10000
attribute [local irreducible] HC HL HQ HX HO At Y YV Opd Opds KnX Sl Ld Src GV RV Calls Code.wp eptr adr RdF ownF OneX HG LdC
theorem pos_in (ns : List Nd) (n : Nd) : 0 ≤ pos ns n ↔ n ∈ ns := by
  have := @pos_neg ns n
  constructor
  · intro h; exact Decidable.byContradiction (fun hn => by have := this.2 hn; omega)
  · intro h; exact Int.not_lt.1 (fun hn => (this.1 hn) h)
theorem c_l2Ends {v u : Value} {ns : List Nd} {es : List Eg} {k nl nn el al an bl bn : Int} (w : World) (hr : RdF w v ns := by exact rdA) (hq : RdF w u es := by exact rdA) : Calls Tryz.prog 173 #[.agg #[v, u], .agg #[.int .i64 k, .int .i64 nl, .int .i64 nn, .int .i64 el, .int .i64 al, .int .i64 an, .int .i64 bl, .int .i64 bn]] w (Ret (fun _ : Unit => .int .i64 (endsC ⟨ns, es⟩ ⟨k, ⟨nl, nn⟩, ⟨el, ⟨al, an⟩, ⟨bl, bn⟩⟩⟩)) (fun _ => []) w) := by
  have o1 := hr.one
  have o2 := hq.one
  refine enter (args := _) Tryz.func173 rfl Tryz.ntmps173 (by simp) ?_
  repeat' (first | refine E.st ?_ | refine E.cl (h := fun _ w _ => c_s_l2At w) (k := ?_) | refine E.cl (h := fun _ w _ => c_l2EdgeAt w) (k := ?_) | refine E.cl (h := fun _ w _ => c_s_l2Nodes w) (k := ?_) | refine E.cl (h := fun _ w _ => c_s_l2Edges w) (k := ?_)  | refine E.q3 ?_ | refine E.q ?_ | refine E.qs ?_ | refine E.q2 ?_ | refine E.q4 ?_ | refine E.tr ?_ | refine E.ap (fun _ _ => ?_) | refine E.b1 (fun _ _ => ?_) | refine E.b0 (fun _ _ => ?_) | refine E.bsn (fun _ _ => ?_) | refine E.mk (fun _ _ => ?_) | refine E.bxO (fun _ => ?_) | refine E.al (fun _ => ?_) | refine E.sbO ?_ | refine E.dq ?_ | refine E.ct ?_ | refine E.cf ?_ | refine E.cs (fun hh => ?_) (fun hh => ?_) | refine E.at_block_other rfl ?_)
  all_goals
    refine ri ?_
    have e1 := pos_in ns ⟨nl, nn⟩
    have e2 := @posG_neg Eg _ es ⟨el, ⟨al, an⟩, ⟨bl, bn⟩⟩
    have e3 := pos_in ns ⟨al, an⟩
    have e4 := pos_in ns ⟨bl, bn⟩
    unfold endsC
    grind
theorem eg_ab {x : Eg} {l n : Int} : ¬ [x.a.l, x.a.n] = [l, n] ↔ x.a ≠ ⟨l, n⟩ := nd_ne
end E
end Go.Proofs.YtpiiapoafmnhhaaGreat
