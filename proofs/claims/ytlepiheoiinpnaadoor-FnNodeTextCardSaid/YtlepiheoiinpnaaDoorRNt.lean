/- FnExactNodeText: for every node that can be told, the program's NodeText and the reference's say the same. The table of the labels' texts starts as the program's text lays it. -/
import Derived.Test.YtlepiheoiinpnaaDoorTc
import Derived.Test.YtlepiheoiinpnaaDoorRows
import Derived.Test.YtlepiheoiinpnaaDoorTie
import Derived.Test.YtlepiheoiinpnaaDoorCards
import Derived.ProofKit
import Derived.OpenShut
import Derived.ShutString
import Derived.ChangeOld
import Derived.ChangeVars
import Derived.LaidMore
import Derived.Lib.SmallJoins
import Derived.SevenTiedAt
import Derived.WalkSmall
namespace Go.Proofs.YtlepiheoiinpnaaDoor
namespace RowNt
open Go.ChangeShapes Go.WideShapes Go.ChangeAt Go.RowKit Go.Joins
set_option linter.unusedVariables false
theorem own : ownKnob Tryd.prog.godebug = none := by kernel_rfl
theorem laidOut : laidOutB Tryd.prog = true := by kernel_rfl
theorem gLab : Tryd.prog.globalNamed "loop.example/hagioscope/impl.labelTexts" = some 0 := by kernel_rfl
theorem tLab : (Tryd.prog.globals[0]?).map (·.type) = some 51 := by kernel_rfl
theorem cLab : Tryd.prog.cellsOf 51 = 8 := by kernel_rfl
theorem cStr : Tryd.prog.cellsOf 9 = 1 := by kernel_rfl
theorem cell_lt {w : World} {a : Addr} {v : Value} (h : w.cell? a = some v) : a.block < w.heap.size := by
  rcases Nat.lt_or_ge a.block w.heap.size with h1 | h1
  · exact h1
  · simp [World.cell?, Array.getElem?_eq_none h1] at h
set_option maxRecDepth 100000 in
/-- What the condition says of the table. -/
theorem glb {H : Type} {enc : TypeId × Value → H} {W : World} {cs : Array Value} {fuel : Nat} {sp : Nat → Bool} {hd : Bool} {p : List MemPlace} (hv : W.var? Tryd.prog "loop.example/hagioscope/impl.labelTexts" = some cs)
    (h : DataW.trod enc Tryd.prog W 0 sp hd fuel 51 cs.toList = some (Rows.laid_loop_example_hagioscope_impl_labelTexts, p)) : E.Glb W := by
  obtain ⟨xs, m, rfl, hx, hlen, hn, hel⟩ := DataW.trod_array Tryd.underlying51 h
  rw [cLab] at hlen
  rw [cStr] at hel
  have hc : ∀ k s, E.lbt[k]? = some s → W.cell? ⟨0, k, none⟩ = some (.string (E.tx s)) := by
    intro k s hs
    have hk : k < 8 := (List.getElem?_eq_some_iff.1 hs).1
    have h1 := hel k hk
    obtain ⟨x, hxk⟩ : ∃ x, xs[k]? = some x := ⟨_, List.getElem?_eq_getElem (by omega)⟩
    rw [hxk] at h1
    obtain ⟨u, e1, e2, _⟩ := DataW.trod_string Tryd.underlying9 h1
    simp only [Prod.mk.injEq] at hx
    have h2 : (xs.map (·.1))[k]? = some (DataW.lit (.string u.data.toList)) := by rw [List.getElem?_map, hxk, e2]; rfl
    have h3 : (E.lbt.map (fun s => DataW.lit (H := H) (.string s)))[k]? = some (DataW.lit (.string s)) := by rw [List.getElem?_map, hs]; rfl
    have h4 : xs.map (·.1) = E.lbt.map (fun s => DataW.lit (H := H) (.string s)) := by
      exact (DataW.agg.inj (show DataW.agg (E.lbt.map fun s => DataW.lit (H := H) (.string s)) = DataW.agg (xs.map (·.1)) from hx.1)).symm
    rw [h4, h3] at h2
    injection h2 with h2
    injection h2 with h2
    injection h2 with h2
    have h5 : cs[k]? = some (.string u) := by
      have h6 : (cs.toList.drop (k * 1)).take 1 = [.string u] := e1
      have h7 : ((cs.toList.drop (k * 1)).take 1)[0]? = some (.string u) := by rw [h6]; rfl
      rw [List.getElem?_take_of_lt (by omega), List.getElem?_drop] at h7
      simpa using h7
    have := World.var?_cell gLab hv k
    rw [h5] at this
    rw [this, h2, E.tx_data]
  refine ⟨?_, hc⟩
  exact cell_lt (hc 0 _ rfl)
theorem of_laid {W : World} (h : laidMetH Tryd.prog Rows.fnExactNodeTextRow.laid W) : E.Glb W := by
  rw [MakeChecks.laidMetH_plain _ _ _ (by kernel_rfl)] at h
  obtain ⟨ps, ⟨_, _, _, _, _, _, _, _, _, _, ⟨_, _, _, _, _, _, _, _, _, _, ⟨_, _, _, _, _, _, _, _, _, _, ⟨g, t, cs, f, p, q, hg, ht, hv, hd, _, _⟩, _⟩, _⟩, _⟩, _⟩ := h
  obtain rfl := Option.some.inj (gLab.symm.trans hg)
  obtain rfl := Option.some.inj (tLab.symm.trans ht)
  exact glb hv hd
set_option maxRecDepth 100000 in
theorem door_met (os : Os) (args : Array Value) : laidMetH Tryd.prog Rows.fnExactNodeTextRow.laid ((World.doorLaid Tryd.prog 400 os).forCall (fun _ _ => 0) ⟨#[], args, []⟩).memory :=
  laidMetH_of_parts3 (fuel := 8) (laidMet_of_run' 8 (by kernel_rfl) (by kernel_rfl)) (by kernel_rfl) (by kernel_rfl)
set_option maxRecDepth 100000 in
theorem lifted (os : Os) (started : os.Started) (H : Type) (enc : TypeId × Value → H) :
    ReturnsInHanded {} Tryd.checked os 3 .any (fun w args => (Rows.fnExactNodeTextSpec.pre enc Tryd.prog Tryd.f3 [] false w args ∧ laidMetH Tryd.prog Rows.fnExactNodeTextRow.laid w) ∧ sizedMet enc Tryd.prog Tryd.f3 (OpenSpec.ofChange Rows.fnExactNodeTextSpec) false w args)
      (Rows.fnExactNodeTextSpec.post enc Tryd.prog Tryd.f3 false true false false) := by
  refine returnsInHanded_of_change_and (C := Tryd.checked) (X := fun w _ => laidMetH Tryd.prog Rows.fnExactNodeTextRow.laid w) (fun _ _ _ hh h => h.of_heap hh) own started (by kernel_rfl) Tryd.func3
    (ChangeSpec.witness_shaped (enc := enc) (C := Tryd.checked) (os := os) (X := fun w _ => laidMetH Tryd.prog Rows.fnExactNodeTextRow.laid w) false (World.doorLaid Tryd.prog 400 os) #[.agg #[.int .i64 0, .int .i64 0]] 8 rfl (World.shaped_of_RefB (by kernel_rfl) (by kernel_rfl)) (by kernel_rfl) (by kernel_rfl) (by kernel_rfl) (door_met os _)) ?_
  intro W base args ds gs before hval0 hW _ _ hL _
  have hval : ∀ (j : Nat) t v, Tryd.f3.params[j]? = some t → args[j]? = some v → Value.okWide Tryd.prog W .any base t v := hval0
  have hW' := hW
  obtain ⟨p, q, hA0, hV0, rfl, hfz, hnd⟩ := hW
  have hA : DataW.TrodAll enc Tryd.prog W 0 (fun _ => true) true Tryd.f3.params.toList args.toList ds p := hA0
  have hV : DataW.TrodVars enc Tryd.prog W (fun _ => true) ["loop.example/hagioscope/impl.labelTexts"] gs q := hV0
  rw [Tryd.params3] at hA hval
  obtain ⟨v0, vs0, d0, ds0, p0, q0, hargs, rfl, rfl, h0, r0⟩ := trodAll_cons hA
  obtain ⟨rfl, rfl, rfl⟩ := trodAll_nil r0
  obtain rfl : args = #[v0] := by cases args; simp_all
  obtain ⟨g, t, cs, fuel, d, p', rfl, hg, ht, hvar, hd, rfl⟩ := trodVars_one hV
  obtain rfl := Option.some.inj (gLab.symm.trans hg)
  obtain rfl := Option.some.inj (tLab.symm.trans ht)
  have k0 := h0
  have lt0 : ∀ x ∈ p0, x.block < W.heap.size := by obtain ⟨m, hm⟩ := k0; exact DataW.trod_lt m _ _ _ hm
  have ltv : ∀ x ∈ p', x.block < W.heap.size := fun x hx => hW'.lt x (List.mem_append_right _ (List.mem_append_right _ hx))
  obtain ⟨c0, c1, y0, y1, m, rfl, e0, e1, hy0, hy1⟩ := open_agg2 Tryd.underlying23 (by kernel_rfl) (by kernel_rfl) (hval 0 23 v0 rfl rfl) h0
  obtain ⟨a, ea, rfl, wa⟩ := DataW.trod_int Tryd.underlying3 hy0
  obtain ⟨b, eb, rfl, wb⟩ := DataW.trod_int Tryd.underlying3 hy1
  simp at ea eb
  subst ea; subst eb
  have hG := of_laid hL
  clear hA0 hval0
  refine (E.c_law_NodeText W hG).mono fun e W' ⟨_, he, bel0⟩ => ?_
  have bel := bel0.below
  subst he
  obtain ⟨fuel', hd'⟩ := Below.trod laidOut (by kernel_rfl) (of_decide_eq_true (by kernel_rfl)) (v := .agg cs) (⟨fuel, by simpa [Value.cells] using hd⟩ : DataW.Trod enc Tryd.prog W 0 (fun _ => true) true 51 (.agg cs) d p') bel ltv
  have hv' := trodVars_mk1 (enc := enc) (spare := fun b => decide (b < W.heap.size)) hg ht (Go.var?_below bel hg hG.1 hvar) (by simpa [Value.cells] using hd')
  exact ⟨_, rfl, _, _, _, [], _, _, hW', trodAll_mk1 (shut_bool Tryd.underlying4 _), (trodAll_cons_mk (Below.trod laidOut (by kernel_rfl) (of_decide_eq_true (by kernel_rfl)) k0 bel lt0) trodAll_mk0), hv', bel.frame _, fun h => by cases h⟩
theorem over : Rows.fnExactNodeTextRow.holds Tryd.pinned (OpenSpec.ofChange Rows.fnExactNodeTextSpec) :=
  OpenClaim.holds_of_wide 3 Tryd.f3 rfl rfl rfl rfl rfl rfl rfl ⟨rfl, rfl, rfl, rfl, rfl⟩ rfl rfl rfl rfl rfl (by kernel_rfl) Tryd.func3 (by kernel_rfl)
    (of_decide_eq_true (by kernel_rfl)) (by unfold Func.isWrapper; first | (rw [if_pos (by decide +kernel)]; kernel_rfl) | (rw [if_neg (by decide +kernel)]; exact ⟨rfl, rfl⟩))
    (fun os started H enc _ => lifted os started H enc)
/-- The card. -/
theorem proved : Rows.FnExactNodeTextCardSaid :=
  Claim7.holds_tied_plain_at .later [] [.data, .data, .data, .data] true (true, "a6beecc31a4b4e755e64dd6c163e3e82889630daddc96b73c31aa8ea466aa34a") true
    over (fun _ h => by cases h) (by kernel_rfl) (fun _ h => by cases h) fnExactNodeText_row_tie rfl ⟨rfl, rfl⟩ (by kernel_rfl) rfl
    (fun f fn hf hfn => by
      obtain rfl : f = 3 := Option.some.inj ((show Tryd.prog.funcNamed "loop.example/hagioscope/laws.FnExactNodeText" = some 3 by kernel_rfl).symm.trans hf) |>.symm
      obtain rfl : fn = Tryd.f3 := (Option.some.inj (Tryd.func3.symm.trans hfn)).symm
      exact ⟨by kernel_rfl, fun j t ht => by
        rw [Tryd.params3] at ht
        have hm : t ∈ [23] := by simpa using Array.mem_of_getElem? ht
        have hall : ([23].all fun u => !Tryd.prog.wantsStandIn u) = true := by kernel_rfl
        exact (show Tryd.prog.wantsStandIn t = false by simpa using List.all_eq_true.1 hall t hm)⟩)
    (by kernel_rfl)
#print axioms proved
end RowNt
end Go.Proofs.YtlepiheoiinpnaaDoor
