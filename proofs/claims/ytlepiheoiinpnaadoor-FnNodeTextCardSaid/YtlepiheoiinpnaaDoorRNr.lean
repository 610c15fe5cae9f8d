/- FnExactNodeRead: for every text that can be told, the program's NodeRead and the reference's say the same. The listed variables start as the program's text lays them. -/
import Derived.Test.YtlepiheoiinpnaaDoorTh
import Derived.Test.YtlepiheoiinpnaaDoorRNt
import Derived.ChangeMaps5
namespace Go.Proofs.YtlepiheoiinpnaaDoor
namespace RowNr
open Go.ChangeShapes Go.WideShapes Go.ChangeAt Go.RowKit Go.Joins RowNt
open Go.ChangeMaps (open_string)
set_option linter.unusedVariables false
theorem gSyn : Tryd.prog.globalNamed "strconv.ErrSyntax" = some 3 := by kernel_rfl
theorem tSyn : (Tryd.prog.globals[3]?).map (·.type) = some 54 := by kernel_rfl
theorem tPow : (Tryd.prog.globals[2]?).map (·.type) = some 81 := by kernel_rfl
theorem cPow : Tryd.prog.cellsOf 81 = 20 := by kernel_rfl
theorem cU64 : Tryd.prog.cellsOf 66 = 1 := by kernel_rfl
theorem iface_cells {H : Type} {enc : TypeId × Value → H} {P : Program} {w : World} {base : Nat} {sp : Nat → Bool} {held : Bool} {fuel : Nat} {t : TypeId} {ms : Array (String × TypeId)} {cs : List Value} {n : String} {d : DataW H} {p : List MemPlace}
    (ht : P.underlying t = some (.interface ms)) (h : DataW.trod enc P w base sp held fuel t cs = some (.iface n d, p)) : ∃ u v, cs = [.iface u v] := by
  cases fuel with
  | zero => simp [DataW.trod] at h
  | succ m =>
    unfold DataW.trod at h
    simp only [ht] at h
    split at h
    all_goals first
      | exact ⟨_, _, rfl⟩
      | (simp at h; done)
      | (simp_all; done)
      | skip
theorem of_laid {W : World} (h : laidMetH Tryd.prog Rows.fnExactNodeReadRow.laid W) : E.Gl2 W := by
  rw [MakeChecks.laidMetH_plain _ _ _ (by kernel_rfl)] at h
  obtain ⟨ps, ⟨_, _, _, _, _, _, _, _, _, _, ⟨_, _, _, _, _, _, _, _, _, _, ⟨gp, tp, csp, fp, pp, qp, hgp, htp, hvp, hdp, ⟨_, _, _, _, _, _, _, _, _, _, ⟨gs, ts, css, fs, ps', qs, hgs, hts, hvs, hds, ⟨g, t, cs, f, p, q, hg, ht, hv, hd, _, _⟩, _⟩, _⟩, _⟩, _⟩, _⟩, _⟩ := h
  obtain rfl := Option.some.inj (gLab.symm.trans hg)
  obtain rfl := Option.some.inj (tLab.symm.trans ht)
  obtain rfl := Option.some.inj (E.gPow.symm.trans hgp)
  obtain rfl := Option.some.inj (tPow.symm.trans htp)
  obtain rfl := Option.some.inj (gSyn.symm.trans hgs)
  obtain rfl := Option.some.inj (tSyn.symm.trans hts)
  refine ⟨glb hv hd, ?_, ?_⟩
  · unfold Lib.TabIs
    rw [hvp, ← Lib.cells_of_tab (zs := Lib.pow10Tab) (k := .u64) Tryd.underlying81 Tryd.underlying66 cU64 cPow hdp]
  · obtain ⟨u, v, e⟩ := iface_cells Tryd.underlying54 hds
    refine ⟨.iface u v, ?_, .inr ⟨u, v, rfl⟩⟩
    have := World.var?_cell gSyn hvs 0
    have e' : css[0]? = some (.iface u v) := by
      have : css.toList[0]? = some (.iface u v) := by rw [e]; rfl
      simpa using this
    rw [e'] at this
    simpa using this
set_option maxRecDepth 100000 in
theorem door_met (os : Os) (args : Array Value) : laidMetH Tryd.prog Rows.fnExactNodeReadRow.laid ((World.doorLaid Tryd.prog 400 os).forCall (fun _ _ => 0) ⟨#[], args, []⟩).memory :=
  laidMetH_of_parts3 (fuel := 8) (laidMet_of_run' 8 (by kernel_rfl) (by kernel_rfl)) (by kernel_rfl) (by kernel_rfl)
set_option maxRecDepth 100000 in
theorem lifted (os : Os) (started : os.Started) (H : Type) (enc : TypeId × Value → H) :
    ReturnsInHanded {} Tryd.checked os 4 .any (fun w args => (Rows.fnExactNodeReadSpec.pre enc Tryd.prog Tryd.f4 [] false w args ∧ laidMetH Tryd.prog Rows.fnExactNodeReadRow.laid w) ∧ sizedMet enc Tryd.prog Tryd.f4 (OpenSpec.ofChange Rows.fnExactNodeReadSpec) false w args)
      (Rows.fnExactNodeReadSpec.post enc Tryd.prog Tryd.f4 false true false false) := by
  refine returnsInHanded_of_change_and (C := Tryd.checked) (X := fun w _ => laidMetH Tryd.prog Rows.fnExactNodeReadRow.laid w) (fun _ _ _ hh h => h.of_heap hh) own started (by kernel_rfl) Tryd.func4
    (ChangeSpec.witness_shaped (enc := enc) (C := Tryd.checked) (os := os) (X := fun w _ => laidMetH Tryd.prog Rows.fnExactNodeReadRow.laid w) false (World.doorLaid Tryd.prog 400 os) #[.string ⟨#[]⟩] 8 rfl (World.shaped_of_RefB (by kernel_rfl) (by kernel_rfl)) (by kernel_rfl) (by kernel_rfl) (by kernel_rfl) (door_met os _)) ?_
  intro W base args ds gs before hval0 hW _ _ hL _
  have hval : ∀ (j : Nat) t v, Tryd.f4.params[j]? = some t → args[j]? = some v → Value.okWide Tryd.prog W .any base t v := hval0
  have hW' := hW
  obtain ⟨p, q, hA0, hV0, rfl, hfz, hnd⟩ := hW
  have hA : DataW.TrodAll enc Tryd.prog W 0 (fun _ => true) true Tryd.f4.params.toList args.toList ds p := hA0
  have hV : DataW.TrodVars enc Tryd.prog W (fun _ => true) ["loop.example/hagioscope/impl.labelTexts"] gs q := hV0
  rw [Tryd.params4] at hA hval
  obtain ⟨v0, vs0, d0, ds0, p0, q0, hargs, rfl, rfl, h0, r0⟩ := trodAll_cons hA
  obtain ⟨rfl, rfl, rfl⟩ := trodAll_nil r0
  obtain rfl : args = #[v0] := by cases args; simp_all
  obtain ⟨g, t, cs, fuel, d, p', rfl, hg, ht, hvar, hd, rfl⟩ := trodVars_one hV
  obtain rfl := Option.some.inj (gLab.symm.trans hg)
  obtain rfl := Option.some.inj (tLab.symm.trans ht)
  have k0 := h0
  have lt0 : ∀ x ∈ p0, x.block < W.heap.size := by obtain ⟨m, hm⟩ := k0; exact DataW.trod_lt m _ _ _ hm
  have ltv : ∀ x ∈ p', x.block < W.heap.size := fun x hx => hW'.lt x (List.mem_append_right _ (List.mem_append_right _ hx))
  obtain ⟨s, rfl, rfl, rfl, ws⟩ := open_string Tryd.underlying9 (hval 0 9 v0 rfl rfl) h0
  have hG := of_laid hL
  clear hA0 hval0
  refine (E.c_law_NodeRead W hG).mono fun e W' ⟨_, he, bel0⟩ => ?_
  have bel := bel0.below
  subst he
  obtain ⟨fuel', hd'⟩ := Below.trod laidOut (by kernel_rfl) (of_decide_eq_true (by kernel_rfl)) (v := .agg cs) (⟨fuel, by simpa [Value.cells] using hd⟩ : DataW.Trod enc Tryd.prog W 0 (fun _ => true) true 51 (.agg cs) d p') bel ltv
  have hv' := trodVars_mk1 (enc := enc) (spare := fun b => decide (b < W.heap.size)) hg ht (Go.var?_below bel hg hG.1.1 hvar) (by simpa [Value.cells] using hd')
  exact ⟨_, rfl, _, _, _, [], _, _, hW', trodAll_mk1 (shut_bool Tryd.underlying4 _), (trodAll_cons_mk (Below.trod laidOut (by kernel_rfl) (of_decide_eq_true (by kernel_rfl)) k0 bel lt0) trodAll_mk0), hv', bel.frame _, fun h => by cases h⟩
theorem over : Rows.fnExactNodeReadRow.holds Tryd.pinned (OpenSpec.ofChange Rows.fnExactNodeReadSpec) :=
  OpenClaim.holds_of_wide 4 Tryd.f4 rfl rfl rfl rfl rfl rfl rfl ⟨rfl, rfl, rfl, rfl, rfl⟩ rfl rfl rfl rfl rfl (by kernel_rfl) Tryd.func4 (by kernel_rfl)
    (of_decide_eq_true (by kernel_rfl)) (by unfold Func.isWrapper; first | (rw [if_pos (by decide +kernel)]; kernel_rfl) | (rw [if_neg (by decide +kernel)]; exact ⟨rfl, rfl⟩))
    (fun os started H enc _ => lifted os started H enc)
/-- The card. -/
theorem proved : Rows.FnExactNodeReadCardSaid :=
  Claim7.holds_tied_plain_at .later [] [.data, .data, .data, .sentinel, .sentinel, .data] true (true, "a6beecc31a4b4e755e64dd6c163e3e82889630daddc96b73c31aa8ea466aa34a") true
    over (fun _ h => by cases h) (by kernel_rfl) (fun _ h => by cases h) fnExactNodeRead_row_tie rfl ⟨rfl, rfl⟩ (by kernel_rfl) rfl
    (fun f fn hf hfn => by
      obtain rfl : f = 4 := Option.some.inj ((show Tryd.prog.funcNamed "loop.example/hagioscope/laws.FnExactNodeRead" = some 4 by kernel_rfl).symm.trans hf) |>.symm
      obtain rfl : fn = Tryd.f4 := (Option.some.inj (Tryd.func4.symm.trans hfn)).symm
      exact ⟨by kernel_rfl, fun j t ht => by
        rw [Tryd.params4] at ht
        have hm : t ∈ [9] := by simpa using Array.mem_of_getElem? ht
        have hall : ([9].all fun u => !Tryd.prog.wantsStandIn u) = true := by kernel_rfl
        exact (show Tryd.prog.wantsStandIn t = false by simpa using List.all_eq_true.1 hall t hm)⟩)
    (by kernel_rfl)
#print axioms proved
end RowNr
end Go.Proofs.YtlepiheoiinpnaaDoor
