/- The program's rows of places, given its rows of nodes. -/
import Derived.Test.YtjdagbicjhmeeaaIe
import Derived.Test.YtjdagbicjhmeeaaUd
namespace Go.Proofs.Ytjdagbicjhmeeaa
namespace E
open Go Go.RowKit
set_option linter.unusedSimpArgs false
set_option linter.unusedVariables false
set_option maxHeartbeats 1000000
set_option maxRecDepth 10000
attribute [local irreducible] HC HL HQ HX HO At Y YV Opd Opds KnX Sl Ld Src GV RV Calls Code.wp eptr adr RdF ownF OneX HG LdC
abbrev SvZ : Sv := ⟨none, 0, 0⟩
theorem ks_two {I y b : Ck} {R L : List Ck} : KSub (I :: y :: b :: (R ++ L)) ((R ++ [I]) ++ L) := by
  refine KSub.ofPermG _ _ [y, b] ?_
  refine (List.Perm.cons _ (List.perm_append_comm (l₁ := [y, b]) (l₂ := R ++ L))).trans ?_
  rw [List.append_assoc, List.append_assoc, List.append_assoc]
  exact List.perm_middle.symm
theorem near_of (hG : GraphNearC) : NearC := by
  intro v u g w hg hr hq
  have o1 := hr.one
  have o2 := hq.one
  have hnl := hg.1.len
  have hel := hg.2.len
  have hA := AOk.of hg
  have hal := hA.1
  refine enter (args := _) Try.func69 rfl Try.ntmps69 (by simp) ?_
  repeat' (first | refine E.st ?_ | refine E.mk (α := Sv) (z' := SvZ) (fun v3 h3 => ?_) | refine E.q3 ?_ | refine E.q ?_ | refine E.qs ?_ | refine E.q2 ?_ | refine E.q4 ?_ | refine E.tr ?_ | refine E.ap (fun _ _ => ?_) | refine E.b1 (fun _ _ => ?_) | refine E.b0 (fun _ _ => ?_) | refine E.bsn (fun _ _ => ?_) | refine E.mk (fun _ _ => ?_) | refine E.bxO (fun _ => ?_) | refine E.al (fun _ => ?_) | refine E.sbO ?_ | refine E.dq ?_ | refine E.ct ?_ | refine E.cf ?_ | refine E.cs (fun hh => ?_) (fun hh => ?_) | refine E.at_block_other rfl ?_)
  have hl0 : (List.replicate g.ns.length SvZ).length = g.ns.length := List.length_replicate
  refine lq (fun p : Nat × List Sv => p.1 ≤ g.ns.length ∧ Match p.2 ((adjL g).take p.1)) (fun p => [(15, .pl (.int .i64 (p.1 : Int)))]) (fun p => ownF 54 v3 (p.2 ++ List.replicate (g.ns.length - p.1) SvZ) :: inn 3 p.2 ((adjL g).take p.1)) (fun p => g.ns.length - p.1) (0, []) ⟨Nat.zero_le _, Match.nil⟩ (fun p hp => ?_) (hK := Spl.ownF pk (by simp) (Spl.nil _))
  obtain ⟨k, rows⟩ := p
  obtain ⟨hk, hM⟩ := hp
  simp only at hk hM
  dsimp only
  have hrl : rows.length = k := by rw [hM.1, List.length_take]; omega
  rcases Nat.lt_or_ge k g.ns.length with hlt | hge
  · obtain ⟨⟨xl, xn⟩, hx⟩ := get_lt hlt
    have hadj := adj_get hx
    have hnl2 := near_len g.es ⟨xl, xn⟩
    have hg3 : (rows ++ List.replicate (g.ns.length - k) SvZ)[k]? = some SvZ := by
      rw [List.getElem?_append_right (by omega), hrl, Nat.sub_self, List.getElem?_replicate, if_pos (by omega)]
    have hRl : (rows ++ List.replicate (g.ns.length - k) SvZ).length = g.ns.length := by simp; omega
    refine E.nl 3 (α := Int) ?_
    repeat' (first | refine E.st ?_ | refine E.cm (h := fun w hw => hG w hg (hr.now hw) (hq.now hw)) (k := fun y => E.wy y.2 (fun _ => ?_)) | refine E.q3 ?_ | refine E.q ?_ | refine E.qs ?_ | refine E.q2 ?_ | refine E.q4 ?_ | refine E.tr ?_ | refine E.ap (fun _ _ => ?_) | refine E.b1 (fun _ _ => ?_) | refine E.b0 (fun _ _ => ?_) | refine E.bsn (fun _ _ => ?_) | refine E.mk (fun _ _ => ?_) | refine E.bxO (fun _ => ?_) | refine E.al (fun _ => ?_) | refine E.sbO ?_ | refine E.dq ?_ | refine E.ct ?_ | refine E.cf ?_ | refine E.cs (fun hh => ?_) (fun hh => ?_) | refine E.at_block_other rfl ?_)
    have hsz : rows ++ List.replicate (g.ns.length - k) SvZ = (rows ++ [SvZ]) ++ List.replicate (g.ns.length - (k + 1)) SvZ := by
      rw [show g.ns.length - k = (g.ns.length - (k + 1)) + 1 from by omega, List.replicate_succ, List.append_assoc]
      rfl
    refine lq (fun z : Nat × Sv => z.1 ≤ (nearL g.es ⟨xl, xn⟩).length) (fun z => [(24, .pl (.int .i64 (z.1 : Int)))]) (fun z => [ownF 54 v3 ((rows ++ [z.2]) ++ List.replicate (g.ns.length - (k + 1)) SvZ), ownF 3 (.slice z.2.a z.2.n z.2.c) (zL (((nearL g.es ⟨xl, xn⟩).take z.1).map (plc g.ns)))]) (fun z => (nearL g.es ⟨xl, xn⟩).length - z.1) (0, SvZ) (Nat.zero_le _) (fun z hz => ?_) (hK := Spl.ownF pk hsz (Spl.ownF pk rfl (Spl.nil _)))
    obtain ⟨j, s⟩ := z
    dsimp only at hz ⊢
    have hgs : ((rows ++ [s]) ++ List.replicate (g.ns.length - (k + 1)) SvZ)[k]? = some s := by
      rw [List.append_assoc, List.getElem?_append_right (by omega), hrl, Nat.sub_self]
      rfl
    have hls : ((rows ++ [s]) ++ List.replicate (g.ns.length - (k + 1)) SvZ).length = g.ns.length := by simp; omega
    have hset : ∀ s' : Sv, ((rows ++ [s]) ++ List.replicate (g.ns.length - (k + 1)) SvZ).set k s' = (rows ++ [s']) ++ List.replicate (g.ns.length - (k + 1)) SvZ := fun s' => by
      rw [List.append_assoc, List.set_append_right _ _ (by omega), hrl, Nat.sub_self, List.append_assoc]
      rfl
    have hlz : (zL (((nearL g.es ⟨xl, xn⟩).take j).map (plc g.ns))).length ≤ 100 := by rw [zL_len]; simp; omega
    rcases Nat.lt_or_ge j (nearL g.es ⟨xl, xn⟩).length with hlt2 | hge2
    · obtain ⟨⟨yl, yn⟩, hy⟩ := get_lt hlt2
      have hym := (near_mem_ns hg (List.mem_of_getElem? hy)).1
      have hzs : zL (((nearL g.es ⟨xl, xn⟩).take (j + 1)).map (plc g.ns)) = zL (((nearL g.es ⟨xl, xn⟩).take j).map (plc g.ns)) ++ [((plc g.ns ⟨yl, yn⟩ : Nat) : Int)] := by simp [zL, List.take_add_one, hy]
      repeat' (first | refine E.st ?_ | refine E.cl (h := fun _ w _ => c_nodePlace_m w hg.1 hym) (k := ?_) | refine E.dxo (.slice s.a s.n s.c) [0, 1, 2, 3, 4, 5, 6, 7, 8, 9, 10, 11, 12] ?_ | refine E.aps (fun s' => ?_) | refine E.q3 ?_ | refine E.q ?_ | refine E.qs ?_ | refine E.q2 ?_ | refine E.q4 ?_ | refine E.tr ?_ | refine E.ap (fun _ _ => ?_) | refine E.b1 (fun _ _ => ?_) | refine E.b0 (fun _ _ => ?_) | refine E.bsn (fun _ _ => ?_) | refine E.mk (fun _ _ => ?_) | refine E.bxO (fun _ => ?_) | refine E.al (fun _ => ?_) | refine E.sbO ?_ | refine E.dq ?_ | refine E.ct ?_ | refine E.cf ?_ | refine E.cs (fun hh => ?_) (fun hh => ?_) | refine E.at_block_other rfl ?_)
      exact rd (α := Nat × Sv) (j + 1, s') hlt2 (hK := KSub.ownF pk (hset s') (KSub.ownF pk hzs.symm ks))
    · rw [List.take_of_length_le hge2]
      have hrow : (adjL g)[k]? = some ((nearL g.es ⟨xl, xn⟩).map (plc g.ns)) := hadj
      repeat' (first | refine E.st ?_ | refine E.q3 ?_ | refine E.q ?_ | refine E.qs ?_ | refine E.q2 ?_ | refine E.q4 ?_ | refine E.tr ?_ | refine E.ap (fun _ _ => ?_) | refine E.b1 (fun _ _ => ?_) | refine E.b0 (fun _ _ => ?_) | refine E.bsn (fun _ _ => ?_) | refine E.mk (fun _ _ => ?_) | refine E.bxO (fun _ => ?_) | refine E.al (fun _ => ?_) | refine E.sbO ?_ | refine E.dq ?_ | refine E.ct ?_ | refine E.cf ?_ | refine E.cs (fun hh => ?_) (fun hh => ?_) | refine E.at_block_other rfl ?_)
      refine rd (α := Nat × List Sv) (k + 1, rows ++ [s]) ⟨by dsimp only; omega, hM.snoc hrow trivial⟩ (hK := KSub.ownF pk rfl ?_)
      dsimp only
      rw [inn_snoc hM hrow]
      change KSub (_ :: _ :: _ :: (_ ++ _)) ((_ ++ [_]) ++ _)
      exact ks_two
  · repeat' (first | refine E.st ?_ | refine E.q3 ?_ | refine E.q ?_ | refine E.qs ?_ | refine E.q2 ?_ | refine E.q4 ?_ | refine E.tr ?_ | refine E.ap (fun _ _ => ?_) | refine E.b1 (fun _ _ => ?_) | refine E.b0 (fun _ _ => ?_) | refine E.bsn (fun _ _ => ?_) | refine E.mk (fun _ _ => ?_) | refine E.bxO (fun _ => ?_) | refine E.al (fun _ => ?_) | refine E.sbO ?_ | refine E.dq ?_ | refine E.ct ?_ | refine E.cf ?_ | refine E.cs (fun hh => ?_) (fun hh => ?_) | refine E.at_block_other rfl ?_)
    have hke : k = g.ns.length := by omega
    subst hke
    rw [List.take_of_length_le (by omega)] at hM ⊢
    exact r1 (α := V1 × { xs : List Sv // Match xs (adjL g) }) (⟨v3, h3⟩, ⟨rows, hM⟩) (hK := KSub.ownF (Pick.here _ _) (by simp) (KSub.ofPermG _ _ _ (List.Perm.refl _)))
end E
end Go.Proofs.Ytjdagbicjhmeeaa
