/- The draws of nodes and of their texts. -/
import Derived.Test.YtlepiheoiinpnaaDoorTl
namespace Go.Proofs.YtlepiheoiinpnaaDoor
namespace E
open Go Go.RowKit
set_option linter.unusedSimpArgs false
set_option linter.unusedVariables false
set_option maxHeartbeats 1000000
set_option maxRecDepth 10000
attribute [local irreducible] HC HL HQ HX HO At Y YV Opd Opds KnX Sl Ld Src GV RV Calls Code.wp eptr adr RdF ownF OneX HG LdC
def opv (v : Value) (xs : List UInt8) : Value := if xs.length ≤ 2000 then v else pre v (Int.toNat 2000)
theorem opv_rd {w : World} {v : Value} {xs : List UInt8} (hr : RdF w v xs) : RdF w (opv v xs) (xs.take 2000) := by
  unfold opv
  split
  · rename_i h
    rw [List.take_of_length_le h]
    exact hr
  · rename_i h
    exact hr.pre (by show 2000 ≤ _; omega)
theorem c_l9Open {v : Value} {xs : List UInt8} (w : World) (hr : RdF w v xs := by exact rdA) : Calls Tryd.prog 27 #[v] w (Ret (fun z : Nat => .pointer (some ⟨z, 0, none⟩)) (fun z => [.box z 61 [opv v xs, .int .i64 ((0 : Nat) : Int)]]) w) := by
  have o1 := hr.one
  have m1 := hr.le
  simp only [maxLen] at m1
  have o2 := (opv_rd hr).one
  unfold opv at o2 ⊢
  by_cases hl : xs.length ≤ 2000
  · rw [if_pos hl] at o2 ⊢
    refine enter (args := _) Tryd.func27 rfl Tryd.ntmps27 (by simp) ?_
    repeat' (first | refine E.st ?_ | refine E.q3 ?_ | refine E.q ?_ | refine E.qs ?_ | refine E.q2 ?_ | refine E.q4 ?_ | refine E.tr ?_ | refine E.ap (fun _ _ => ?_) | refine E.b1 (fun _ _ => ?_) | refine E.b0 (fun _ _ => ?_) | refine E.bsn (fun _ _ => ?_) | refine E.mk (fun _ _ => ?_) | refine E.bxO (fun _ => ?_) | refine E.al (fun _ => ?_) | refine E.sbO ?_ | refine E.dq ?_ | refine E.ct ?_ | refine E.cf ?_ | refine E.cs (fun hh => ?_) (fun hh => ?_) | refine E.at_block_other rfl ?_)
    exact r1 (α := Nat) _
  · rw [if_neg hl] at o2 ⊢
    refine enter (args := _) Tryd.func27 rfl Tryd.ntmps27 (by simp) ?_
    repeat' (first | refine E.st ?_ | refine E.q3 ?_ | refine E.q ?_ | refine E.qs ?_ | refine E.q2 ?_ | refine E.q4 ?_ | refine E.tr ?_ | refine E.ap (fun _ _ => ?_) | refine E.b1 (fun _ _ => ?_) | refine E.b0 (fun _ _ => ?_) | refine E.bsn (fun _ _ => ?_) | refine E.mk (fun _ _ => ?_) | refine E.bxO (fun _ => ?_) | refine E.al (fun _ => ?_) | refine E.sbO ?_ | refine E.dq ?_ | refine E.ct ?_ | refine E.cf ?_ | refine E.cs (fun hh => ?_) (fun hh => ?_) | refine E.at_block_other rfl ?_)
    exact r1 (α := Nat) _
theorem c_of {g : Nat} {bv v : Value} {bs : List UInt8} {xs : List ByteArray} {p : Nat} {w0 : World} {K : List Ck} (w : World) (hw : KOk w0 (.box g 61 [bv, .int .i64 ((p : Nat) : Int)] :: K) w) (hb : RdIn w0 K bv bs := by exact rdI) (hr : RdIn w0 K v xs := by exact rdI) (h0 : 0 < xs.length := by decide) (hp : p ≤ 1000000000 := by omega) :
    Calls Tryd.prog 30 #[.pointer (some ⟨g, 0, none⟩), v] w (RetK (fun z : {k : ByteArray // k ∈ xs} => .string z.1) (fun _ => .box g 61 [bv, .int .i64 ((p + 1 : Nat) : Int)] :: K) w0) := by
  have hm := (hr w hw.drop).le
  simp only [maxLen] at hm
  refine enterK (args := _) hw Tryd.func30 rfl Tryd.ntmps30 (by simp) ?_
  repeat' (first | refine E.st ?_ | refine E.ckq (h := fun w hw => c_pick w hw) (k := fun z => E.wx (get_lt (xs := xs) (k := z.1) (by have := z.2.1; omega)) (fun x hx => ?_)) | refine E.q3 ?_ | refine E.q ?_ | refine E.qs ?_ | refine E.q2 ?_ | refine E.q4 ?_ | refine E.tr ?_ | refine E.ap (fun _ _ => ?_) | refine E.b1 (fun _ _ => ?_) | refine E.b0 (fun _ _ => ?_) | refine E.bsn (fun _ _ => ?_) | refine E.mk (fun _ _ => ?_) | refine E.bxO (fun _ => ?_) | refine E.al (fun _ => ?_) | refine E.sbO ?_ | refine E.dq ?_ | refine E.ct ?_ | refine E.cf ?_ | refine E.cs (fun hh => ?_) (fun hh => ?_) | refine E.at_block_other rfl ?_)
  exact r1K ⟨_, List.mem_of_getElem? (by assumption)⟩
theorem c_DrawNodeOk {v : Value} {xs : List UInt8} (w : World) (hr : RdF w v xs := by exact rdA) : Calls Tryd.prog 26 #[v] w (Ret (fun z : Int × Int => .agg #[.int .i64 z.1, .int .i64 z.2]) (fun _ => []) w) := by
  have o1 := hr.one
  have hb := opv_rd hr
  refine enter (args := _) Tryd.func26 rfl Tryd.ntmps26 (by simp) ?_
  repeat' (first | refine E.st ?_ | refine E.cm (h := fun w hw => c_l9Open w (hr.now hw)) (k := fun z => ?_) | refine E.ckq (h := fun w hw => c_l2Node w hw) (k := fun z => ?_) | refine E.ckq (h := fun w hw => c_pick w hw) (k := fun z => ?_) | refine E.ckq (h := fun w hw => c_l1Label w hw) (k := fun z => ?_) | refine E.ckq (h := fun w hw => c_num w hw (xs := [-1, 41, 9223372036854775807])) (k := fun z => ?_) | refine E.q3 ?_ | refine E.q ?_ | refine E.qs ?_ | refine E.q2 ?_ | refine E.q4 ?_ | refine E.tr ?_ | refine E.ap (fun _ _ => ?_) | refine E.b1 (fun _ _ => ?_) | refine E.b0 (fun _ _ => ?_) | refine E.bsn (fun _ _ => ?_) | refine E.mk (fun _ _ => ?_) | refine E.bxO (fun _ => ?_) | refine E.al (fun _ => ?_) | refine E.sbO ?_ | refine E.dq ?_ | refine E.ct ?_ | refine E.cf ?_ | refine E.cs (fun hh => ?_) (fun hh => ?_) | refine E.at_block_other rfl ?_)
  all_goals exact r1 (α := Int × Int) (_, _)
theorem c_DrawNodeText {v : Value} {xs : List UInt8} (w : World) (hr : RdF w v xs := by exact rdA) : Calls Tryd.prog 12 #[v] w (Ret (fun z : Int × Int => .agg #[.int .i64 z.1, .int .i64 z.2]) (fun _ => []) w) := by
  have o1 := hr.one
  refine enter (args := _) Tryd.func12 rfl Tryd.ntmps12 (by simp) ?_
  repeat' (first | refine E.st ?_ | refine E.cm (h := fun w hw => c_DrawNodeOk w (hr.now hw)) (k := fun z => ?_) | refine E.q3 ?_ | refine E.q ?_ | refine E.qs ?_ | refine E.q2 ?_ | refine E.q4 ?_ | refine E.tr ?_ | refine E.ap (fun _ _ => ?_) | refine E.b1 (fun _ _ => ?_) | refine E.b0 (fun _ _ => ?_) | refine E.bsn (fun _ _ => ?_) | refine E.mk (fun _ _ => ?_) | refine E.bxO (fun _ => ?_) | refine E.al (fun _ => ?_) | refine E.sbO ?_ | refine E.dq ?_ | refine E.ct ?_ | refine E.cf ?_ | refine E.cs (fun hh => ?_) (fun hh => ?_) | refine E.at_block_other rfl ?_)
  exact r1 (α := Int × Int) (_, _)
theorem c_DrawNodeRead {v : Value} {xs : List UInt8} (w : World) (hr : RdF w v xs := by exact rdA) : Calls Tryd.prog 13 #[v] w (Ret (fun z : { s : List UInt8 // s.length ≤ 1000 } => .string (tx z.1)) (fun _ => []) w) := by
  have o1 := hr.one
  have hb := opv_rd hr
  have hpc : ∀ (x : Nd) (hx : nok x = true), 0 < (ntx ⟨x.l, x.n⟩).length ∧ (ntx ⟨x.l, x.n⟩).length ≤ 6 := fun x hx => by
    obtain ⟨l, n, t, rfl, hn, ht, e⟩ := ntx_to hx
    have h1 := lbt_len ht
    have h2 := dec_len (n := n) (by omega)
    change 0 < (ntx _).length ∧ (ntx _).length ≤ 6
    rw [e]
    simp only [List.length_append, List.length_cons]
    omega
  have hof : ∀ z : {k : ByteArray // k ∈ ([⟨#[]⟩, ⟨#[48]⟩, ⟨#[46]⟩, ⟨#[97]⟩, ⟨#[100]⟩, ⟨#[52]⟩, ⟨#[45]⟩] : List ByteArray)}, z.1.size ≤ 1 := fun z => by
    obtain ⟨k, hk⟩ := z
    simp only [List.mem_cons, List.mem_nil_iff, or_false] at hk
    dsimp only
    rcases hk with rfl | rfl | rfl | rfl | rfl | rfl | rfl <;> exact (by decide)
  have fin : ∀ (s : List UInt8) (m n : Nat) (b : ByteArray), s.length ≤ 6 → b.size ≤ 1 → ∃ l : List UInt8, l.length ≤ 1000 ∧ (tx s).extract 0 m ++ b ++ (tx s).extract n (tx s).size = tx l := fun s m n b h1 h2 => by
    refine ⟨s.take m ++ b.data.toList ++ s.drop n, ?_, ?_⟩
    · have h3 : b.data.toList.length ≤ 1 := by simpa using h2
      simp only [List.length_append, List.length_take, List.length_drop]
      omega
    · rw [tx_extract, tx_extract, ← tx_append, ← tx_append, tx_data, tx_size, List.take_length]
      simp
  refine enter (args := _) Tryd.func13 rfl Tryd.ntmps13 (by simp) ?_
  repeat' (first | refine E.st ?_ | refine E.cm (h := fun w hw => c_l9Open w (hr.now hw)) (k := fun z => ?_) | refine E.ckq (h := fun w hw => c_l2Node w hw) (k := fun z0 => E.wy (hpc _ z0.2) (fun hs => ?_)) | refine E.cl (h := fun _ w _ => c_s_NodeText w) (k := ?_) | refine E.ckq (h := fun w hw => c_of w hw) (k := fun z3 => E.wy (hof z3) (fun h3 => ?_)) | refine E.dxq z [0, 1, 2, 3, 7, 8, 9, 4, 5, 6, 10, 11, 12, 13, 14] ?_ | refine E.q4 (hy := a_str_pre (n := z2.1) (hk := fun _ => ⟨rfl, by have e := tx_size (ntx ⟨z0.1.l, z0.1.n⟩); omega⟩)) ?_ | refine E.q4 (hy := a_str_suf (n := z2.1 + z4.1) (hk := fun _ => ⟨by omega, by have e := tx_size (ntx ⟨z0.1.l, z0.1.n⟩); omega⟩)) ?_ | refine E.q4 (hy := a_cat (hl := fun _ => by simp only [tx_size, ByteArray.size_extract, ByteArray.size_append]; omega)) ?_ | refine E.ckq (h := fun w hw => c_pick w hw (n := 2)) (k := fun z4 => E.wy (show z4.1 < 2 by have := z4.2.1; omega) (fun h4 => ?_)) | refine E.ckq (h := fun w hw => c_pick w hw) (k := fun z2 => E.wy (show z2.1 < (ntx ⟨z0.1.l, z0.1.n⟩).length by have h := z2.2.1; simp only [tx_size] at h; omega) (fun h2 => ?_)) | refine E.q3 ?_ | refine E.q ?_ | refine E.qs ?_ | refine E.q2 ?_ | refine E.q4 ?_ | refine E.tr ?_ | refine E.ap (fun _ _ => ?_) | refine E.b1 (fun _ _ => ?_) | refine E.b0 (fun _ _ => ?_) | refine E.bsn (fun _ _ => ?_) | refine E.mk (fun _ _ => ?_) | refine E.bxO (fun _ => ?_) | refine E.al (fun _ => ?_) | refine E.sbO ?_ | refine E.dq ?_ | refine E.ct ?_ | refine E.cf ?_ | refine E.cs (fun hh => ?_) (fun hh => ?_) | refine E.at_block_other rfl ?_)
  · exact r1 (α := { s : List UInt8 // s.length ≤ 1000 }) ⟨ntx ⟨z0.1.l, z0.1.n⟩, by have := hs.2; omega⟩
  obtain ⟨l, h5, h6⟩ := fin (ntx ⟨z0.1.l, z0.1.n⟩) z2.1 (z2.1 + z4.1) z3.1 hs.2 h3
  rw [h6]
  exact r1 (α := { s : List UInt8 // s.length ≤ 1000 }) ⟨l, h5⟩
end E
end Go.Proofs.YtlepiheoiinpnaaDoor
