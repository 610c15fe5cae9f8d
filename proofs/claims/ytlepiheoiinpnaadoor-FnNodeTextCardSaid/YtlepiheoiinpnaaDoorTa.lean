/- Labels and numbers as texts: what is read of the program's table, and the reference's own making. -/
import Derived.Test.YtlepiheoiinpnaaDoorUd
import Derived.Test.YtlepiheoiinpnaaDoorPa
import Derived.Lib.ItoaNum
namespace Go.Proofs.YtlepiheoiinpnaaDoor
namespace E
open Go Go.RowKit
set_option linter.unusedSimpArgs false
set_option linter.unusedVariables false
set_option maxHeartbeats 1000000
set_option maxRecDepth 10000
attribute [local irreducible] HC HL HQ HX HO At Y YV Opd Opds KnX Sl Ld Src GV RV Calls Code.wp eptr adr RdF ownF OneX HG LdC
theorem tx_size (l : List UInt8) : (tx l).size = l.length := rfl
theorem tx_append (a b : List UInt8) : tx a ++ tx b = tx (a ++ b) := by
  have h : (tx a ++ tx b).data = (tx (a ++ b)).data := by rw [ByteArray.data_append]; simp [tx]
  generalize tx a ++ tx b = u at h ⊢
  cases u
  simp only at h
  rw [h]
theorem tx_inj {a b : List UInt8} : tx a = tx b ↔ a = b := by
  constructor
  · intro h
    have := congrArg (fun b : ByteArray => b.data.toList) h
    simpa [tx] using this
  · rintro rfl; rfl
theorem tx_data (s : ByteArray) : tx s.data.toList = s := by cases s; simp [tx]
/-- What the table of the labels' texts holds. -/
def lbt : List (List UInt8) := [[45], [97], [98], [97, 98], [99], [97, 99], [98, 99], [97, 98, 99]]
def Glb (w : World) : Prop := 0 < w.heap.size ∧ ∀ k s, lbt[k]? = some s → w.cell? ⟨0, k, none⟩ = some (.string (tx s))
theorem Glb.now {w0 w : World} {K : List Ck} (h : Glb w0) (hw : KOk w0 K w) : Glb w :=
  ⟨Nat.lt_of_lt_of_le h.1 hw.below.size, fun k s hk => by rw [hw.below.cell (show _ < w0.heap.size from h.1)]; exact h.2 k s hk⟩
theorem glA {w : World} (h : Glb w := by (first | assumption | exact Glb.now (by assumption) (by assumption)); first | done | fail) : Glb w := h
section
variable {N : Nat} {w0 : World} {K K' Kp : List Ck} {F F' : List (Nat × En)} {c : Bool} {Q : Exit → Act → World → Prop} {ops : Array Oper} {rest : List Oper} {d : Nat} {dd : Option Tmp} {ty : TypeId} {pos : String} {af : Array Edge} {gd : Option (Nat × Bool)}
variable {x y ix : Operand} {t t' : TypeId} {u v : Value} {o : Oper} {m m' : Md} {e : En} {gk : Bool}
theorem Ld.glb {k : Nat} {s : List UInt8} (h : Glb w0) (hk : c = true → lbt[k]? = some s) : Ld w0 K c (.pointer (some ⟨0, k * 1, none⟩)) [.string (tx s)] := by
  unfold Ld
  intro hc
  refine ⟨_, rfl, fun w hw j u hu => ?_⟩
  cases j with
  | zero =>
    simp only [List.getElem?_cons_zero, Option.some.injEq] at hu
    subst hu
    have := (h.now hw).2 k s (hk hc)
    simpa [Addr.add] using this
  | succ j => simp at hu
theorem a_loadG {k : Nat} {s : List UInt8} [T : TOne Tryd.prog t] (h : Opd N F c x (.pointer (some ⟨0, k * 1, none⟩)) := by first | exact Opd.pl rfl | exact Opd.gd rfl (fun h => h)) (hg : Glb w0 := by assumption) (hk : c = true → lbt[k]? = some s := by first | assumption | exact (fun _ => by assumption)) :
    YV Tryd.prog N w0 K F c ⟨dd, .load t x, ty, pos, af, gd⟩ (.string (tx s)) := y_load h (Ld.glb hg hk)
theorem q7 {Kq : List Ck} {v : Value} (hr : HG Tryd.prog N w0 ops Q m' rest ((d, e) :: F) K) (hd : o.dst = some d := by rfl) (hN : d < N := by decide) (hG : GE N F ops o.guard c gk := by first | exact GE.n | exact GE.s (by first | exact GV.pt rfl rfl | exact GV.pf rfl rfl | exact GV.gt rfl rfl | exact GV.gf rfl rfl)) (hX : NX m m' := by first | exact NX.l | exact NX.q | exact NX.x _ _ _ _ | exact NX.y _ _ _ _) (hQ : KQ ops K m Kq := by first | exact KQ.l | exact KQ.q | exact KQ.x (by decide +kernel) ks) (hy : YV Tryd.prog N w0 Kq F c o v := by first | exact a_idxA | exact a_loadG) (he : IE gk c v e := by first | exact IE.n _ _ | exact IE.s _ _) : HG Tryd.prog N w0 ops Q m (o :: rest) F K := hgv hd hN hG hQ hX hy he hr
end
/-- The program's text of a label. -/
theorem c_i_LabelText {l : Nat} {s : List UInt8} (w : World) (hs : lbt[l]? = some s) (hg : Glb w := by exact glA) : Calls Tryd.prog 18 #[.int .i64 (l : Int)] w (Ret (fun _ : Unit => .string (tx s)) (fun _ => []) w) := by
  have hl : l < 8 := by have := (List.getElem?_eq_some_iff.1 hs).1; simpa [lbt] using this
  have hk : lok (l : Int) = true := by rw [lok_iff]; omega
  refine enter (args := _) Tryd.func18 rfl Tryd.ntmps18 (by simp) ?_
  repeat' (first | refine E.st ?_ | refine E.cl (h := fun _ w _ => c_i_LabelOk w) (k := ?_) | refine E.q7 ?_ | refine E.q3 ?_ | refine E.q ?_ | refine E.qs ?_ | refine E.q2 ?_ | refine E.q4 ?_ | refine E.tr ?_ | refine E.ap (fun _ _ => ?_) | refine E.b1 (fun _ _ => ?_) | refine E.b0 (fun _ _ => ?_) | refine E.bsn (fun _ _ => ?_) | refine E.mk (fun _ _ => ?_) | refine E.bxO (fun _ => ?_) | refine E.al (fun _ => ?_) | refine E.sbO ?_ | refine E.dq ?_ | refine E.ct ?_ | refine E.cf ?_ | refine E.cs (fun hh => ?_) (fun hh => ?_) | refine E.at_block_other rfl ?_)
  all_goals first
    | exact r1 ()
    | (exfalso; simp_all; done)
end E
end Go.Proofs.YtlepiheoiinpnaaDoor
