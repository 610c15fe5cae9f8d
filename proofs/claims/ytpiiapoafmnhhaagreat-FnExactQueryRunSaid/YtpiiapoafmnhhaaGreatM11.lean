/- slices.SortFunc at nodes: the program bears the library's bodies, by these numbers. -/
import Derived.Shelf.SlSortCmp.NoneTotal
import Derived.Test.YtpiiapoafmnhhaaGreatProg
import Derived.Test.YtpiiapoafmnhhaaGreatM10
import Derived.Test.YtpiiapoafmnhhaaGreatM06
import Derived.WalkKit
namespace Go.Proofs.YtpiiapoafmnhhaaGreat
namespace E
open Go Go.Shelf
set_option maxRecDepth 20000
set_option maxHeartbeats 2000000
def sortRen : Ren where
  f := (fun n => match n with | 6 => 135 | 14 => 182 | 15 => 183 | 20 => 207 | 21 => 208 | 22 => 209 | 23 => 210 | 24 => 211 | 25 => 212 | 26 => 213 | 27 => 214 | 28 => 215 | 29 => 216 | 46 => 224 | 47 => 225 | 48 => 226 | 49 => 227 | 50 => 228 | 57 => 240 | n => n)
  t := (fun n => match n with | 0 => 0 | 3 => 3 | 4 => 4 | 5 => 5 | 9 => 9 | 22 => 42 | 24 => 32 | 25 => 159 | 39 => 208 | 45 => 228 | 46 => 229 | 50 => 188 | 53 => 235 | 55 => 237 | 66 => 241 | 70 => 245 | 76 => 254 | 77 => 203 | n => n)
  g := fun n => n
theorem sortL : Go.Proofs.SlLaysF0.n6 Tryz.prog sortRen where
  mixed := by kernel_rfl
  f6 := ⟨Tryz.f135.name, by kernel_rfl, Tryz.func135.trans (congrArg some (by kernel_rfl))⟩
  f14 := ⟨Tryz.f182.name, by kernel_rfl, Tryz.func182.trans (congrArg some (by kernel_rfl))⟩
  f15 := Tryz.func183.trans (congrArg some (by kernel_rfl))
  f20 := ⟨Tryz.f207.name, by kernel_rfl, Tryz.func207.trans (congrArg some (by kernel_rfl))⟩
  f21 := ⟨Tryz.f208.name, by kernel_rfl, Tryz.func208.trans (congrArg some (by kernel_rfl))⟩
  f22 := ⟨Tryz.f209.name, by kernel_rfl, Tryz.func209.trans (congrArg some (by kernel_rfl))⟩
  f23 := ⟨Tryz.f210.name, by kernel_rfl, Tryz.func210.trans (congrArg some (by kernel_rfl))⟩
  f24 := ⟨Tryz.f211.name, by kernel_rfl, Tryz.func211.trans (congrArg some (by kernel_rfl))⟩
  f25 := ⟨Tryz.f212.name, by kernel_rfl, Tryz.func212.trans (congrArg some (by kernel_rfl))⟩
  f26 := ⟨Tryz.f213.name, by kernel_rfl, Tryz.func213.trans (congrArg some (by kernel_rfl))⟩
  f27 := ⟨Tryz.f214.name, by kernel_rfl, Tryz.func214.trans (congrArg some (by kernel_rfl))⟩
  f28 := Tryz.func215.trans (congrArg some (by kernel_rfl))
  f29 := Tryz.func216.trans (congrArg some (by kernel_rfl))
  f46 := ⟨Tryz.f224.name, by kernel_rfl, Tryz.func224.trans (congrArg some (by kernel_rfl))⟩
  f47 := Tryz.func225.trans (congrArg some (by kernel_rfl))
  f48 := Tryz.func226.trans (congrArg some (by kernel_rfl))
  f49 := ⟨Tryz.f227.name, by kernel_rfl, Tryz.func227.trans (congrArg some (by kernel_rfl))⟩
  f50 := ⟨Tryz.f228.name, by kernel_rfl, Tryz.func228.trans (congrArg some (by kernel_rfl))⟩
  f57 := ⟨Tryz.f240.name, by kernel_rfl, Tryz.func240.trans (congrArg some (by kernel_rfl))⟩
  t0 := Tryz.underlying0
  a0 := Tryz.isAgg0
  z0 := Tryz.sizeOf0
  v0 := Tryz.zeroValue0
  t3 := Tryz.underlying3
  a3 := Tryz.isAgg3
  z3 := Tryz.sizeOf3
  v3 := Tryz.zeroValue3
  t4 := Tryz.underlying4
  a4 := Tryz.isAgg4
  z4 := Tryz.sizeOf4
  v4 := Tryz.zeroValue4
  t5 := Tryz.underlying5
  a5 := Tryz.isAgg5
  z5 := Tryz.sizeOf5
  v5 := Tryz.zeroValue5
  t9 := Tryz.underlying9
  a9 := Tryz.isAgg9
  z9 := Tryz.sizeOf9
  v9 := Tryz.zeroValue9
  t22 := Tryz.underlying42
  a22 := Tryz.isAgg42
  z22 := Tryz.sizeOf42
  v22 := Tryz.zeroValue42
  t25 := Tryz.underlying159
  a25 := Tryz.isAgg159
  z25 := Tryz.sizeOf159
  v25 := Tryz.zeroValue159
  t39 := Tryz.underlying208
  a39 := Tryz.isAgg208
  z39 := Tryz.sizeOf208
  v39 := Tryz.zeroValue208
  t45 := Tryz.underlying228
  a45 := Tryz.isAgg228
  z45 := Tryz.sizeOf228
  v45 := Tryz.zeroValue228
  t46 := Tryz.underlying229
  a46 := Tryz.isAgg229
  z46 := Tryz.sizeOf229
  v46 := Tryz.zeroValue229
  t50 := Tryz.underlying188
  a50 := Tryz.isAgg188
  z50 := Tryz.sizeOf188
  v50 := Tryz.zeroValue188
  t53 := Tryz.underlying235
  a53 := Tryz.isAgg235
  z53 := Tryz.sizeOf235
  v53 := Tryz.zeroValue235
  t55 := Tryz.underlying237
  a55 := Tryz.isAgg237
  z55 := Tryz.sizeOf237
  v55 := Tryz.zeroValue237
  t66 := Tryz.underlying241
  a66 := Tryz.isAgg241
  z66 := Tryz.sizeOf241
  v66 := Tryz.zeroValue241
  t70 := Tryz.underlying245
  a70 := Tryz.isAgg245
  z70 := Tryz.sizeOf245
  v70 := Tryz.zeroValue245
  t76 := Tryz.underlying254
  a76 := Tryz.isAgg254
  z76 := Tryz.sizeOf254
  v76 := Tryz.zeroValue254
  t77 := Tryz.underlying203
  a77 := Tryz.isAgg203
  z77 := Tryz.sizeOf203
  v77 := Tryz.zeroValue203
end E
end Go.Proofs.YtpiiapoafmnhhaaGreat
/- slices.SortFunc over rows of the call's own. -/
namespace Go.Proofs.YtpiiapoafmnhhaaGreat
namespace E
open Go Go.RowKit Go.Sort
set_option linter.unusedSimpArgs false
set_option linter.unusedVariables false
section
variable {α : Type} [Flat α] [Inhabited α]
theorem flat_get {xs : List α} {j : Nat} (hj : j < xs.length * Flat.k α) : (cells xs)[j]? = some (flatK Flat.f (Flat.k α) xs.toArray)[j]! := by
  have k0 : 0 < Flat.k α := by
    rcases Nat.eq_zero_or_pos (Flat.k α) with h | h
    · rw [h] at hj; simp at hj
    · exact h
  have hd : j / Flat.k α < xs.length := Nat.div_lt_of_lt_mul (by rw [Nat.mul_comm]; exact hj)
  have hm : j % Flat.k α < Flat.k α := Nat.mod_lt _ k0
  rw [get_flatK _ _ _ _ (by simpa using hj)]
  obtain ⟨x, hx⟩ : ∃ x, xs[j / Flat.k α]? = some x := ⟨_, List.getElem?_eq_getElem hd⟩
  have hxa : xs.toArray[j / Flat.k α]! = x := by
    rw [getElem!_pos _ _ (by simpa using hd)]
    have := (List.getElem?_eq_some_iff.1 hx).2
    simpa using this
  rw [hxa]
  have hl : j % Flat.k α < (Flat.f x).length := by rw [Flat.len]; exact hm
  have hu : (Flat.f x)[j % Flat.k α]? = some ((Flat.f x)[j % Flat.k α]!) := by
    rw [getElem!_pos (Flat.f x) (j % Flat.k α) hl]
    exact List.getElem?_eq_getElem hl
  have := cells_get xs _ _ _ _ hx hu
  rwa [Nat.mul_comm, Nat.div_add_mod] at this
theorem own_holds {w : World} {B g cap : Nat} {e : TypeId} {xs : List α} {cur : Array Value} (hh : w.heap[g]? = some (.cells cur e (0, 0))) (hnc : xs.length ≤ cap) (hc : cur.size = cap * Flat.k α) (ht : cur.toList.take (xs.length * Flat.k α) = cells xs) : HoldsK Flat.f (Flat.k α) w g 0 xs.toArray := by
  intro j hj
  have hj' : j < xs.length * Flat.k α := by simpa using hj
  have h1 := flat_get hj'
  rw [← ht, List.getElem?_take_of_lt hj'] at h1
  constructor
  · simp only [World.cell?, hh, Nat.zero_add, id_eq]
    simpa using h1
  · simp [World.frozen?, hh]
theorem own_sorted {w0 w : World} {K : List Ck} {e : TypeId} {g cap m : Nat} {xs : List α} {d : Array α} {os : Array Obj} (h : KOk w0 (ownF e (.slice (some ⟨g, 0, none⟩) xs.length cap) xs :: K) w) (hd : d.size = xs.length) :
    KOk w0 (ownF e (.slice (some ⟨g, 0, none⟩) xs.length cap) d.toList :: K) (sortWorldK Flat.f (Flat.k α) w g 0 m d os) := by
  have hown := h.holds _ List.mem_cons_self
  rcases hown.2 with ⟨hv, _⟩ | ⟨g', cap', cur, hv, hB, hh, hnc, hcm, hcur, htk⟩
  · cases hv
  injection hv with h1 h2 h3
  injection h1 with h1
  injection h1 with h1
  subst h1 h3
  have hlt : g < w.heap.size := by
    rcases Nat.lt_or_ge g w.heap.size with h | h
    · exact h
    · rw [Array.getElem?_eq_none h] at hh; cases hh
  have hle : xs.length * Flat.k α ≤ cap * Flat.k α := Nat.mul_le_mul_right _ hnc
  have hF : (flatK Flat.f (Flat.k α) d).size = xs.length * Flat.k α := by rw [size_flatK, hd]
  have hheap : (sortWorldK Flat.f (Flat.k α) w g 0 m d os).heap = (w.heap.modify g (onCells (putCells id 0 (flatK Flat.f (Flat.k α) d)))) ++ os := rfl
  have hold : ∀ k, k < w.heap.size → (sortWorldK Flat.f (Flat.k α) w g 0 m d os).heap[k]? = (w.heap.modify g (onCells (putCells id 0 (flatK Flat.f (Flat.k α) d))))[k]? := fun k hk => by
    rw [hheap, Array.getElem?_append, if_pos (by simpa using hk)]
  refine h.turn (g := g) rfl ⟨rfl, rfl, rfl, ?_, fun k hk hne => ?_⟩ ?_ (Or.inl rfl)
  · rw [hheap]; simp
  · rw [hold k hk, Array.getElem?_modify, if_neg (fun e => hne (by rw [e]))]
  · have hdl : d.toList.length = xs.length := by rw [Array.length_toList]; exact hd
    have hcl : (cells d.toList).length = xs.length * Flat.k α := by rw [cells_length, hdl]
    refine ⟨by rw [cells_length], Or.inr ⟨g, cap, putCells id 0 (flatK Flat.f (Flat.k α) d) cur, ?_, hB, ?_, ?_, hcm, by simp [putCells, hcur], ?_⟩⟩
    · rw [hdl]
    · rw [hold g hlt, Array.getElem?_modify, if_pos rfl, hh]; rfl
    · rw [hdl]; exact hnc
    · rw [hdl]
      apply List.ext_getElem?
      intro j
      rcases Nat.lt_or_ge j (xs.length * Flat.k α) with hj | hj
      · have h2 : (cells d.toList)[j]? = some (flatK Flat.f (Flat.k α) d)[j]! := by
          have := flat_get (xs := d.toList) (j := j) (by rw [Array.length_toList, hd]; exact hj)
          simpa using this
        rw [List.getElem?_take_of_lt hj, h2]
        simp only [putCells, Array.getElem?_toList, Array.getElem?_mapIdx]
        rw [Array.getElem?_eq_getElem (by omega), Option.map_some, if_pos ⟨by omega, by omega⟩]
        rfl
      · rw [List.getElem?_eq_none (by simp; omega), List.getElem?_eq_none (by omega)]
end
/-! ### At the program's nodes -/
abbrev NdK : Type := { x : Nd // nok x = true }
instance : Inhabited NdK := ⟨⟨⟨0, 0⟩, by decide⟩⟩
instance : Flat NdK := ⟨2, fun x => Flat.f x.1, fun x => Flat.len x.1, fun x => Flat.one x.1⟩
theorem cells_val (xs : List NdK) : cells (xs.map Subtype.val) = cells xs := by
  unfold cells
  induction xs with
  | nil => rfl
  | cons x xs ih => simp only [List.map_cons, List.flatMap_cons, ih]; rfl
theorem ownF_val (e : TypeId) (v : Value) (xs : List NdK) : ownF e v (xs.map Subtype.val) = ownF e v xs := by
  unfold ownF
  rw [cells_val, List.length_map]
  rfl
def cfN (x y : NdK) : Int := Lib.compareInt (cd x.1) (cd y.1)
theorem ltN (x y : NdK) : ltOf cfN x y = decide (cd x.1 < cd y.1) := by
  unfold ltOf cfN Lib.compareInt
  by_cases h1 : cd x.1 < cd y.1
  · simp [h1]
  · by_cases h2 : cd y.1 < cd x.1 <;> simp [h1, h2]
theorem swoN : SWO (ltOf cfN) where
  irrefl x := by rw [ltN]; simp
  trans x y z h1 h2 := by rw [ltN] at *; simp at *; omega
  ntrans x y z h1 h2 := by rw [ltN] at *; simp at *; omega
end E
end Go.Proofs.YtpiiapoafmnhhaaGreat
/- The program's order of nodes, as slices.SortFunc asks for it. -/
namespace Go.Proofs.YtpiiapoafmnhhaaGreat
namespace E
open Go Go.RowKit Go.Sort Go.Lib Go.Shelf
set_option linter.unusedSimpArgs false
set_option linter.unusedVariables false
set_option maxHeartbeats 2000000
set_option maxRecDepth 20000
theorem grow2 (W : World) (a b : Obj) : (W.alloc a).alloc b = grow (W.drewN 0) #[a, b] := by
  rw [alloc_eq_grow, alloc_eq_grow, grow_grow]; rfl
theorem grow_two (W : World) (os : Array Obj) (n : Nat) (os' : Array Obj) : grow ((grow (W.drewN 0) os).drewN n) os' = grow (W.drewN n) (os ++ os') := by
  have h1 : (grow (W.drewN 0) os).drewN n = grow (W.drewN n) os := by simp [grow, World.drewN]
  rw [h1, grow_grow]
theorem s_code (a1 a2 : Int) (W : World) (ha : nok ⟨a1, a2⟩ = true) : Calls Tryz.prog 75 #[.agg #[.int .i64 a1, .int .i64 a2]] W fun e w' => e = .returned (.int .i64 (cd ⟨a1, a2⟩)) ∧ ∃ q os', w' = grow (W.drewN q) os' := by
  have h := nok_iff.1 ha
  dsimp only at h
  obtain ⟨h1, h2, h3, h4⟩ := h
  have e1 : decide (0 ≤ a1) = true := decide_eq_true h1
  have e2 : decide (a1 ≤ 7) = true := decide_eq_true h2
  have e3 : decide (0 ≤ a2) = true := decide_eq_true h3
  have e4 : decide (a2 ≤ 40) = true := decide_eq_true h4
  have hw1 : wrap64 (64 * a1) = 64 * a1 := by unfold wrap64; omega
  go_enter Tryz.func75, Tryz.ntmps75
  go_wp2_with (first | go_in)
  go_ret
  refine ⟨by rw [cd_ok ha]; rfl, 0, _, grow2 W _ _⟩
theorem s_cmp (x y : Int) (W : World) : Calls Tryz.prog 184 #[.int .i64 x, .int .i64 y] W fun e w' => e = .returned (.int .i64 (Lib.compareInt x y)) ∧ w' = W := by
  unfold Lib.compareInt
  by_cases h1 : x < y
  · rw [if_pos h1]
    go_enter Tryz.func184, Tryz.ntmps184
    go_wp2_with (first | go_in)
    go_ret
    exact ⟨rfl, rfl⟩
  · rw [if_neg h1]
    by_cases h2 : y < x
    · rw [if_pos h2]
      go_enter Tryz.func184, Tryz.ntmps184
      go_wp2_with (first | go_in)
      go_ret
      exact ⟨rfl, rfl⟩
    · rw [if_neg h2]
      go_enter Tryz.func184, Tryz.ntmps184
      go_wp2_with (first | go_in)
      go_ret
      exact ⟨rfl, rfl⟩
theorem s_order0 (a1 a2 b1 b2 ca cb r : Int) (W : World)
    (ha1 : ∀ W, Calls Tryz.prog 75 #[.agg #[.int .i64 a1, .int .i64 a2]] W fun e w' => e = .returned (.int .i64 ca) ∧ ∃ q os', w' = grow (W.drewN q) os')
    (hb1 : ∀ W, Calls Tryz.prog 75 #[.agg #[.int .i64 b1, .int .i64 b2]] W fun e w' => e = .returned (.int .i64 cb) ∧ ∃ q os', w' = grow (W.drewN q) os')
    (hc : ∀ W, Calls Tryz.prog 184 #[.int .i64 ca, .int .i64 cb] W fun e w' => e = .returned (.int .i64 r) ∧ w' = W) :
    Calls Tryz.prog 136 #[.agg #[.int .i64 a1, .int .i64 a2], .agg #[.int .i64 b1, .int .i64 b2]] W fun e w' => e = .returned (.int .i64 r) ∧ ∃ q os', w' = grow (W.drewN q) os' := by
  have mixed : (Tryz.prog).follows .mixedOrders = true := by kernel_rfl
  go_enter Tryz.func136, Tryz.ntmps136
  go_wp2_with fail
  have hL : ∀ (W1 : World) (g i : Nat) (cs : Array Value) (v : Value), g < W1.heap.size → W1.heap[g]? = some (.cells cs 32 (0, 0)) → cs[i]? = some v → ∀ n os, (grow (W1.drewN n) os).cell? ⟨g, i, none⟩ = some v := fun W1 g i cs v hg hh hv n os => by
    have hh' : (grow (W1.drewN n) os).heap[g]? = some (.cells cs 32 (0, 0)) := by
      rw [heap_grow_old _ _ (by exact hg)]; exact hh
    simp [World.cell?, hh', hv]
  have hs1 : ((W.alloc (Obj.cells #[Value.int IntKind.i64 a1, Value.int IntKind.i64 a2] 32)).alloc (Obj.cells #[Value.int IntKind.i64 b1, Value.int IntKind.i64 b2] 32)) = grow (W.drewN 0) #[.cells #[Value.int IntKind.i64 a1, Value.int IntKind.i64 a2] 32, .cells #[Value.int IntKind.i64 b1, Value.int IntKind.i64 b2] 32] := grow2 W _ _
  generalize ((W.alloc (Obj.cells #[Value.int IntKind.i64 a1, Value.int IntKind.i64 a2] 32)).alloc (Obj.cells #[Value.int IntKind.i64 b1, Value.int IntKind.i64 b2] 32)) = W1 at hs1 ⊢
  have g1 : W1.heap[W.heap.size]? = some (.cells #[Value.int IntKind.i64 a1, Value.int IntKind.i64 a2] 32 (0, 0)) := by rw [hs1]; simp [grow, World.drewN]
  have g2 : W1.heap[W.heap.size + 1]? = some (.cells #[Value.int IntKind.i64 b1, Value.int IntKind.i64 b2] 32 (0, 0)) := by rw [hs1]; simp [grow, World.drewN]
  have z1 : W.heap.size + 1 < W1.heap.size := by rw [hs1]; simp [grow, World.drewN]
  have l1 := hL W1 W.heap.size 0 _ (.int .i64 a1) (by omega) g1 rfl
  have l2 := hL W1 W.heap.size 1 _ (.int .i64 a2) (by omega) g1 rfl
  have l3 := hL W1 (W.heap.size + 1) 0 _ (.int .i64 b1) (by omega) g2 rfl
  have l4 := hL W1 (W.heap.size + 1) 1 _ (.int .i64 b2) (by omega) g2 rfl
  have HS : Aside (W1 = grow (W.drewN 0) #[.cells #[Value.int IntKind.i64 a1, Value.int IntKind.i64 a2] 32, .cells #[Value.int IntKind.i64 b1, Value.int IntKind.i64 b2] 32]) := hs1
  clear hL hs1 g1 g2 z1
  have hc' : ∀ n os, Calls Tryz.prog 184 #[.int .i64 ca, .int .i64 cb] (grow (W1.drewN n) os) fun e w'' => e = .returned (.int .i64 r) ∧ ∃ p : GrownBy, w'' = grow (W1.drewN p.n) p.os := fun n os => (hc _).mono (fun _ _ h => ⟨h.1, ⟨n, os⟩, h.2⟩)
  have ha' : ∀ n os, _ := fun n os => Calls.grown_of (w := W1) (n := n) (os := os) (ha1 _)
  have hb' : ∀ n os, _ := fun n os => Calls.grown_of (w := W1) (n := n) (os := os) (hb1 _)
  clear ha1 hb1 hc
  refine wp_region_quiet_grown mixed (by kernel_rfl) ?_
  quiet_step (fail)
  quiet_step (exact ha' _ _)
  quiet_step (fail)
  quiet_step (exact hb' _ _)
  quiet_step (exact hc' _ _)
  quiet_step (fail)
  refine wpQuiet_nil ?_
  intro _ hw'
  obtain ⟨⟨nq, osq⟩, hw''⟩ := hw'
  subst hw''
  go_wp2_with fail
  go_ret
  refine ⟨rfl, nq, #[.cells #[Value.int IntKind.i64 a1, Value.int IntKind.i64 a2] 32, .cells #[Value.int IntKind.i64 b1, Value.int IntKind.i64 b2] 32] ++ osq, ?_⟩
  rw [HS.out]
  exact grow_two W _ nq osq
theorem s_order (a1 a2 b1 b2 : Int) (W : World) (ha : nok ⟨a1, a2⟩ = true) (hb : nok ⟨b1, b2⟩ = true) : Calls Tryz.prog 136 #[.agg #[.int .i64 a1, .int .i64 a2], .agg #[.int .i64 b1, .int .i64 b2]] W fun e w' => e = .returned (.int .i64 (Lib.compareInt (cd ⟨a1, a2⟩) (cd ⟨b1, b2⟩))) ∧ ∃ q os', w' = grow (W.drewN q) os' :=
  s_order0 a1 a2 b1 b2 _ _ _ W (fun W => s_code a1 a2 W ha) (fun W => s_code b1 b2 W hb) (fun W => s_cmp _ _ W)
theorem s_lays (blk off size : Nat) (w : World) : CmpLays Tryz.prog 136 #[] (Flat.f (α := NdK)) 2 cfN blk off size w := fun _ _ _ _ x y => s_order x.1.l x.1.n y.1.l y.1.n _ x.2 y.2
end E
end Go.Proofs.YtpiiapoafmnhhaaGreat
/- slices.Compact at the program's nodes, over rows of the call's own. -/
namespace Go.Proofs.YtpiiapoafmnhhaaGreat
namespace E
open Go Go.RowKit
set_option linter.unusedSimpArgs false
set_option linter.unusedVariables false
/-! ### What it computes -/
def keepB (xs : List Nd) (j : Nat) : Bool := decide (j = 0) || !decide (xs[j]? = xs[j - 1]?)
def compU (xs : List Nd) (k : Nat) : List Nd := ((List.range k).filter (keepB xs)).filterMap (fun j => xs[j]?)
theorem compU_succ {xs : List Nd} {k : Nat} {x : Nd} (h : xs[k]? = some x) : compU xs (k + 1) = compU xs k ++ if keepB xs k = true then [x] else [] := by
  unfold compU
  rw [List.range_succ, List.filter_append, List.filterMap_append]
  cases hk : keepB xs k <;> simp [hk, h]
theorem compU_all {xs : List Nd} : ∀ {k : Nat}, k ≤ xs.length → (∀ j, j < k → keepB xs j = true) → compU xs k = xs.take k
  | 0, _, _ => by simp [compU]
  | k + 1, hk, h => by
    obtain ⟨x, hx⟩ := get_lt (show k < xs.length by omega)
    rw [compU_succ hx, h k (by omega), if_pos rfl, compU_all (by omega) (fun j hj => h j (by omega)), List.take_add_one, hx]
    rfl
theorem mem_compU {xs : List Nd} {x : Nd} : ∀ {k : Nat}, k ≤ xs.length → (x ∈ compU xs k ↔ x ∈ xs.take k)
  | 0, _ => by simp [compU]
  | k + 1, hk => by
    obtain ⟨y, hy⟩ := get_lt (show k < xs.length by omega)
    have ih := mem_compU (xs := xs) (x := x) (k := k) (by omega)
    rw [compU_succ hy, List.take_add_one, hy, List.mem_append, List.mem_append, ih]
    cases hb : keepB xs k with
    | true => simp
    | false =>
      simp only [keepB, Bool.or_eq_false_iff, decide_eq_false_iff_not, Bool.not_eq_false', decide_eq_true_eq] at hb
      obtain ⟨h0, h1⟩ := hb
      simp only [Bool.false_eq_true, if_false, List.not_mem_nil, or_false, Option.toList_some, List.mem_singleton]
      constructor
      · exact Or.inl
      · rintro (h | rfl)
        · exact h
        · refine List.mem_of_getElem? (i := k - 1) ?_
          rw [List.getElem?_take_of_lt (by omega), ← h1, hy]
/-- Of a row in order each stays once. -/
theorem compU_sorted {xs : List Nd} (hn : ∀ x ∈ xs, nok x = true) (h : xs.Pairwise (fun a b => cd a ≤ cd b)) : ∀ {k : Nat}, k ≤ xs.length → (compU xs k).Pairwise (fun a b => cd a < cd b)
  | 0, _ => by simp [compU]
  | k + 1, hk => by
    obtain ⟨x, hx⟩ := get_lt (show k < xs.length by omega)
    have ih := compU_sorted hn h (k := k) (by omega)
    rw [compU_succ hx]
    cases hb : keepB xs k with
    | false => simpa using ih
    | true =>
      rw [if_pos rfl]
      refine List.pairwise_append.2 ⟨ih, List.pairwise_singleton _ _, fun a ha b hb2 => ?_⟩
      rw [List.mem_singleton] at hb2
      subst hb2
      have ha2 := (mem_compU (by omega)).1 ha
      obtain ⟨i, hi⟩ := List.mem_iff_getElem?.1 ha2
      have hik : i < k := by
        have := (List.getElem?_eq_some_iff.1 hi).1
        simp at this; omega
      rw [List.getElem?_take_of_lt hik] at hi
      have le : ∀ i j : Nat, ∀ u v : Nd, i < j → xs[i]? = some u → xs[j]? = some v → cd u ≤ cd v := fun i j u v hij hu hv => by
        obtain ⟨h1, rfl⟩ := List.getElem?_eq_some_iff.1 hu
        obtain ⟨h2, rfl⟩ := List.getElem?_eq_some_iff.1 hv
        exact List.pairwise_iff_getElem.1 h i j h1 h2 hij
      have h1 := le i k a b hik hi hx
      obtain ⟨y, hy⟩ := get_lt (show k - 1 < xs.length by omega)
      have hne : b ≠ y := by
        intro e
        subst e
        simp only [keepB, Bool.or_eq_true, decide_eq_true_eq, Bool.not_eq_true', decide_eq_false_iff_not] at hb
        rcases hb with hb | hb
        · omega
        · exact hb (by rw [hx, hy])
      have h2 := le (k - 1) k y b (by omega) hy hx
      have h3 : cd y < cd b := by
        rcases Int.lt_or_eq_of_le h2 with h3 | h3
        · exact h3
        · exact absurd (cd_inj (hn _ (List.mem_of_getElem? hx)) (hn _ (List.mem_of_getElem? hy)) h3.symm) hne
      rcases Nat.lt_or_ge i (k - 1) with h4 | h4
      · have := le i (k - 1) a y h4 hi hy; omega
      · have : i = k - 1 := by omega
        subst this
        rw [hi] at hy
        injection hy with hy
        subst hy
        exact h3
/-- The second loop: m places have been looked at, kk of them stay, and stand ahead. -/
structure Cmp2 (xs ys : List Nd) (m kk : Nat) : Prop where
  len : ys.length = xs.length
  hi : ∀ j, m ≤ j + 1 → ys[j]? = xs[j]?
  lo : ys.take kk = compU xs m
  lt : kk + 1 ≤ m
theorem Cmp2.kl {xs ys : List Nd} {m kk : Nat} (h : Cmp2 xs ys m kk) (hm : m ≤ xs.length) : kk < ys.length := by have := h.lt; have := h.len; omega
theorem Cmp2.skip {xs ys : List Nd} {m kk : Nat} (h : Cmp2 xs ys m kk) (hm : m < xs.length) (hk : keepB xs m = false) : Cmp2 xs ys (m + 1) kk := by
  obtain ⟨x, hx⟩ := get_lt hm
  exact ⟨h.len, fun j hj => h.hi j (by omega), by rw [compU_succ hx, hk, h.lo]; simp, by have := h.lt; omega⟩
theorem Cmp2.keep {xs ys : List Nd} {m kk : Nat} {x : Nd} (h : Cmp2 xs ys m kk) (hm : m < xs.length) (hx : xs[m]? = some x) (hk : keepB xs m = true) : Cmp2 xs (ys.set kk x) (m + 1) (kk + 1) := by
  have hl := h.kl (by omega)
  have hlt := h.lt
  refine ⟨by simp [h.len], fun j hj => ?_, ?_, by omega⟩
  · rw [List.getElem?_set_ne (by omega)]; exact h.hi j (by omega)
  · rw [compU_succ hx, hk, if_pos rfl, ← h.lo, List.take_add_one, List.getElem?_set_self hl, List.take_set, List.set_eq_of_length_le (by simp; omega)]
    rfl
theorem keepB_iff {xs : List Nd} {k : Nat} {x y : Nd} (h0 : 0 < k) (hx : xs[k]? = some x) (hy : xs[k - 1]? = some y) : keepB xs k = !decide (x = y) := by
  unfold keepB
  rw [hx, hy]
  have : ¬ k = 0 := by omega
  simp [this]
/-! ### The rules that the walk wants -/
section
variable {P : Program} {N : Nat} {w0 : World} {K K' : List Ck} {F : List (Nat × En)} {Q : Exit → Act → World → Prop} {ops : Array Oper} {rest : List Oper} {ty : TypeId} {pos : String} {af : Array Edge} {x : Operand} {t e : TypeId} {v : Value} {Kn : Act → World → Prop}
theorem RdIn.partO {α : Type} [Flat α] {e : TypeId} {v : Value} {xs : List α} {n i : Nat} (hl : xs.length = n) (hi : i ≤ n) : RdIn w0 [ownF e v xs] (E.part v (Flat.k α) i n) (xs.drop i) := fun w hw => by
  subst hl
  exact (RdF.of_own (List.mem_singleton.2 rfl) hw : RdF w v xs).suf hi
theorem zero_made (zs : List Value) (n : Nat) (h : 0 < zs.length) : (Builtin.zeroCells zs.toArray n).toList = (List.replicate n zs).flatten := by
  have := madeCells_rep h n
  unfold Builtin.zeroCells
  unfold madeCells at this
  have e : zs.toArray.size = zs.length := by simp
  rw [e]
  rw [e] at this
  rw [this]
theorem ho_clr {α : Type} [Flat α] {xs : List α} {k n : Nat} {zs : List Value} [T : TSlc P t e] [Z : TZero P e zs] (z : α) (hz : Flat.f z = zs) (h0 : 0 < Flat.k α) (hn : xs.length = n) (hx : Opd N F true x (E.part v (Flat.k α) k n)) (hk : k ≤ n) (hp : Pick K (ownF e v xs) K') (hr : At N w0 Kn F (ownF e v (xs.take k ++ List.replicate (n - k) z) :: K')) :
    HO P N w0 Q ⟨none, .call { callee := .builtin .clear, args := #[x], argTypes := #[t] }, ty, pos, af, none⟩ Kn F K := fun a w ha hw => by
  subst hn
  have hw' := hw.pick hp
  have hown : w.ownsRow w0.heap.size e (Flat.k α) v xs.length (cells xs) := hw'.holds _ List.mem_cons_self
  have hx' := hx a ha rfl
  have same : xs.length - k = 0 → KOk w0 (ownF e v (xs.take k ++ List.replicate (xs.length - k) z) :: K') w := fun h => by
    rw [h, List.replicate_zero, List.append_nil, List.take_of_length_le (by omega)]; exact hw'
  rcases hown.2 with ⟨rfl, h2⟩ | ⟨g, cap, cur, rfl, hB, hh, hnc, hcm, hcur, htk⟩
  · refine ho_val (.tuple #[]) w ?_ (hr _ _ (ha.put_none _) (same (by omega)))
    have hp0 : E.part (.slice none 0 0) (Flat.k α) k xs.length = .slice none (xs.length - k) (0 - k) := by simp [E.part]
    rw [hp0] at hx'
    simp [execOp, resolve, invoke, builtin, hx', Builtin.clear_, run_underlying T.is]
  · rcases Nat.eq_zero_or_pos (xs.length - k) with h0' | hpos
    · refine ho_val (.tuple #[]) w ?_ (hr _ _ (ha.put_none _) (same h0'))
      unfold E.part at hx'
      rw [h0'] at hx'
      dsimp only at hx'
      by_cases hck : cap = k
      · rw [if_pos hck] at hx'
        simp [execOp, resolve, invoke, builtin, hx', Builtin.clear_, run_underlying T.is]
      · rw [if_neg hck] at hx'
        simp [execOp, resolve, invoke, builtin, hx', Builtin.clear_, run_underlying T.is]
    · have hadr : Addr.add ⟨g, 0, none⟩ (k * Flat.k α) = ⟨g, k * Flat.k α, none⟩ := by unfold Addr.add; split <;> simp_all
      have hp0 : E.part (.slice (some ⟨g, 0, none⟩) xs.length cap) (Flat.k α) k xs.length = .slice (some ⟨g, k * Flat.k α, none⟩) (xs.length - k) (cap - k) := by
        unfold E.part
        dsimp only
        rw [if_neg (by omega), Option.map_some, hadr]
      rw [hp0] at hx'
      obtain ⟨zv, hzv, hzc⟩ := Z.zero w
      have hle : xs.length * Flat.k α ≤ cap * Flat.k α := Nat.mul_le_mul_right _ hnc
      have hlz : ((List.replicate (xs.length - k) zs).flatten).length = (xs.length - k) * Flat.k α := by
        rw [← hz, ← cells_replicate, cells_length, List.length_replicate]
      have hsum : k * Flat.k α + (xs.length - k) * Flat.k α = xs.length * Flat.k α := by rw [← Nat.add_mul]; congr 1; omega
      obtain ⟨w1, hrun, hg, hh1, _⟩ := run_storeCells (P := P) ((List.replicate (xs.length - k) zs).flatten) w cur.toList ⟨g, k * Flat.k α, none⟩ (k * Flat.k α) 0 rfl rfl (by simpa using hh) (by rw [hlz]; simp only [Array.length_toList]; rw [hcur]; omega) (fun u hu => by
        rw [← hz, ← cells_replicate] at hu; exact cells_one _ u hu) rfl
      have hset : setAt (cells xs) (k * Flat.k α) ((List.replicate (xs.length - k) zs).flatten) = cells (xs.take k ++ List.replicate (xs.length - k) z) := by
        have h1 : cells xs = cells (xs.take k) ++ cells (xs.drop k) := by rw [← cells_append, List.take_append_drop]
        have h2 : (cells (xs.take k)).length = k * Flat.k α := by rw [cells_length, List.length_take, Nat.min_eq_left hk]
        rw [h1, ← h2]
        have := setAt_append_right ((List.replicate (xs.length - k) zs).flatten) (cells (xs.take k)) (cells (xs.drop k)) 0
        rw [Nat.add_zero] at this
        rw [this, setAt_full _ _ (by rw [hlz, cells_length, List.length_drop]), cells_append, cells_replicate, hz]
      have hK := hw'.turn (g := g) (k' := ownF e (.slice (some ⟨g, 0, none⟩) xs.length cap) (xs.take k ++ List.replicate (xs.length - k) z)) rfl hg (by
        have := ownsRow_setAt (k := k * Flat.k α) hown.1 hnc hcm hB hcur htk (by omega) hh1
        rw [hset] at this
        have hl : (xs.take k ++ List.replicate (xs.length - k) z).length = xs.length := by simp; omega
        unfold ownF Ck.holds
        rw [hl]
        exact this) (Or.inl rfl)
      refine ho_val (.tuple #[]) w1 ?_ (hr _ _ (ha.put_none _) hK)
      obtain ⟨m, hm⟩ : ∃ m, xs.length - k = m + 1 := ⟨xs.length - k - 1, by omega⟩
      have hzm := zero_made zs (xs.length - k) (by rw [← hz, Flat.len]; exact h0)
      rw [hm] at hx' hrun hzm
      simp [execOp, resolve, invoke, builtin, hx', Builtin.clear_, run_underlying T.is, hzv, hzc, hzm, hrun]
theorem clr {α : Type} [Flat α] {xs : List α} {d k n : Nat} {zs : List Value} [T : TSlc P t e] [Z : TZero P e zs] [El : ElT P e α] {z : α} (hr : ∀ R : List α, R.length = n → R.take k = xs.take k → HG P N w0 ops Q .l rest F (ownF e v R :: K')) (hx : Opd N F true x (E.part v d k n) := by exact Opd.pl rfl) (hp : Pick K (ownF e v xs) K' := by exact pk) (hn : xs.length = n := by first | rfl | assumption) (hk : k ≤ n := by omega) (hM : MkI α zs z := by exact inferInstance) (hd : d = Flat.k α := by rfl) (h0 : 0 < Flat.k α := by decide) :
    HG P N w0 ops Q .l (⟨none, .call { callee := .builtin .clear, args := #[x], argTypes := #[t] }, ty, pos, af, none⟩ :: rest) F K := by
  subst hd
  exact hl_o rfl (ho_clr z hM.eq h0 hn hx hk hp (hr _ (by simp; omega) (by rw [List.take_append_of_le_length (by simp; omega), List.take_take, Nat.min_self])))
/-- A beginning of a row of the call's own is one. -/
theorem at_shrink {α : Type} [Flat α] {R : Act → World → Prop} {xs : List α} {k : Nat} (hk : k ≤ xs.length) (h : At N w0 R F (ownF e (pre v k) (xs.take k) :: K')) (hp : Pick K (ownF e v xs) K' := by exact pk) : At N w0 R F K := fun a w ha hw => by
  have hw' := hw.pick hp
  refine h a w ha ⟨hw'.below, fun c hc => ?_, ?_⟩
  · rcases List.mem_cons.1 hc with rfl | hc
    · have hown : w.ownsRow w0.heap.size e (Flat.k α) v xs.length (cells xs) := hw'.holds _ List.mem_cons_self
      have hl : (xs.take k).length = k := by rw [List.length_take]; omega
      have hcl : cells (xs.take k) = (cells xs).take (k * Flat.k α) := cells_take xs k hk
      unfold ownF Ck.holds
      rw [hl]
      refine ⟨by rw [cells_length, hl], ?_⟩
      rcases hown.2 with ⟨rfl, h2⟩ | ⟨g, cap, cur, rfl, hB, hh, hnc, hcm, hcur, htk⟩
      · left
        have : k = 0 := by omega
        subst this
        exact ⟨rfl, rfl⟩
      · refine Or.inr ⟨g, cap, cur, rfl, hB, hh, by omega, hcm, hcur, ?_⟩
        rw [hcl, ← htk, List.take_take, Nat.min_eq_left (Nat.mul_le_mul_right _ hk)]
    · exact hw'.holds _ (List.mem_cons_of_mem _ hc)
  · obtain ⟨h1, h2⟩ := List.pairwise_cons.1 hw'.apart
    refine List.pairwise_cons.2 ⟨fun y hy => ?_, h2⟩
    have h3 := h1 y hy
    have hb : (ownF e (pre v k) (xs.take k)).blk = (ownF e v xs).blk := by
      unfold ownF Ck.blk
      cases v <;> first | rfl | (rename_i A n c; cases A <;> rfl)
    unfold Ck.apart at h3 ⊢
    rw [hb]
    exact h3
end
end E
end Go.Proofs.YtpiiapoafmnhhaaGreat
/- slices.Compact at the program's nodes: walked. -/
namespace Go.Proofs.YtpiiapoafmnhhaaGreat
namespace E
open Go Go.RowKit
set_option linter.unusedSimpArgs false
set_option linter.unusedVariables false
set_option maxHeartbeats 1000000
set_option maxRecDepth 10000
attribute [local irreducible] HC HL HQ HX HO At Y YV Opd Opds KnX Sl Ld Src GV RV Calls Code.wp eptr adr RdF ownF OneX HG LdC
theorem c_compact {v : Value} {xs : List Nd} {w0 : World} {K : List Ck} (w : World) (hw : KOk w0 (ownF 32 v xs :: K) w) (hl : xs.length ≤ 1000) :
    Calls Tryz.prog 137 #[v] w (RetK (fun z : { v' : Value // v'.oneCell' = true } => z.1) (fun z => ownF 32 z.1 (compU xs xs.length) :: K) w0) := by
  have ho : v.oneCell' = true := (RdF.of_own (List.mem_cons_self) hw : RdF w v xs).one
  have hop : ∀ k, (pre v k).oneCell' = true := fun k => by
    cases v <;> first | rfl | exact ho
  rcases Nat.lt_or_ge xs.length 2 with h2 | h2
  · have hc : compU xs xs.length = xs := by
      rw [compU_all (Nat.le_refl _) (fun j hj => ?_), List.take_length]
      unfold keepB
      have : j = 0 ∨ j = 1 := by omega
      rcases this with rfl | rfl
      · rfl
      · omega
    rw [hc]
    refine enterK (args := _) hw Tryz.func137 rfl Tryz.ntmps137 (by simp) ?_
    repeat' (first | refine E.st ?_ | refine E.q3 ?_ | refine E.q ?_ | refine E.qs ?_ | refine E.q2 ?_ | refine E.q4 ?_ | refine E.tr ?_ | refine E.ap (fun _ _ => ?_) | refine E.b1 (fun _ _ => ?_) | refine E.b0 (fun _ _ => ?_) | refine E.bsn (fun _ _ => ?_) | refine E.mk (fun _ _ => ?_) | refine E.bxO (fun _ => ?_) | refine E.al (fun _ => ?_) | refine E.sbO ?_ | refine E.dq ?_ | refine E.ct ?_ | refine E.cf ?_ | refine E.cs (fun hh => ?_) (fun hh => ?_) | refine E.at_block_other rfl ?_)
    exact r1K (α := { v' : Value // v'.oneCell' = true }) ⟨v, ho⟩
  · refine enterK (args := _) hw Tryz.func137 rfl Tryz.ntmps137 (by simp) ?_
    repeat' (first | refine E.st ?_ | refine E.q3 ?_ | refine E.q ?_ | refine E.qs ?_ | refine E.q2 ?_ | refine E.q4 ?_ | refine E.tr ?_ | refine E.ap (fun _ _ => ?_) | refine E.b1 (fun _ _ => ?_) | refine E.b0 (fun _ _ => ?_) | refine E.bsn (fun _ _ => ?_) | refine E.mk (fun _ _ => ?_) | refine E.bxO (fun _ => ?_) | refine E.al (fun _ => ?_) | refine E.sbO ?_ | refine E.dq ?_ | refine E.ct ?_ | refine E.cf ?_ | refine E.cs (fun hh => ?_) (fun hh => ?_) | refine E.at_block_other rfl ?_)
    have hk0 : ∀ j, j < 1 → keepB xs j = true := fun j hj => by
      have : j = 0 := by omega
      subst this; rfl
    refine lq (fun k : Nat => 1 ≤ k ∧ k ≤ xs.length ∧ ∀ j, j < k → keepB xs j = true) (fun k => [(3, .pl (.int .i64 (k : Int)))]) (fun k => ([] : List Ck)) (fun k => xs.length - k) 1 ⟨Nat.le_refl _, by omega, hk0⟩ (fun k hk => ?_)
    obtain ⟨hk1, hk2, hall⟩ := hk
    skip
    rcases Nat.lt_or_ge k xs.length with hlt | hge
    · obtain ⟨⟨xl, xn⟩, hx⟩ := get_lt hlt
      obtain ⟨⟨yl, yn⟩, hy⟩ := get_lt (show k - 1 < xs.length by omega)
      have hkb := keepB_iff hk1 hx hy
      have hy' : xs[((k : Int) - 1).toNat]? = some ⟨yl, yn⟩ := by rw [show ((k : Int) - 1).toNat = k - 1 from by omega]; exact hy
      have heq : decide ([xl, xn] = [yl, yn]) = decide ((⟨xl, xn⟩ : Nd) = ⟨yl, yn⟩) := by simp
      cases hkv : keepB xs k with
      | true =>
        rw [hkv] at hkb
        have hd : decide ((⟨xl, xn⟩ : Nd) = ⟨yl, yn⟩) = false := by cases h : decide ((⟨xl, xn⟩ : Nd) = ⟨yl, yn⟩) <;> simp_all
        repeat' (first | refine E.st ?_ | refine E.q3 ?_ | refine E.q ?_ | refine E.qs ?_ | refine E.q2 ?_ | refine E.q4 ?_ | refine E.tr ?_ | refine E.ap (fun _ _ => ?_) | refine E.b1 (fun _ _ => ?_) | refine E.b0 (fun _ _ => ?_) | refine E.bsn (fun _ _ => ?_) | refine E.mk (fun _ _ => ?_) | refine E.bxO (fun _ => ?_) | refine E.al (fun _ => ?_) | refine E.sbO ?_ | refine E.dq ?_ | refine E.ct ?_ | refine E.cf ?_ | refine E.cs (fun hh => ?_) (fun hh => ?_) | refine E.at_block_other rfl ?_)
        · exfalso; simp_all
        · exact rd (k + 1) ⟨by omega, by omega, fun j hj => by
            rcases Nat.lt_or_ge j k with h | h
            · exact hall j h
            · have : j = k := by omega
              subst this; exact hkv⟩
      | false =>
        have hz : Nd := ⟨0, 0⟩
        have hst : Cmp2 xs xs (k + 1) k := ⟨rfl, fun _ _ => rfl, by rw [compU_succ hx, hkv, compU_all (by omega) hall]; simp, Nat.le_refl _⟩
        repeat' (first | refine E.st ?_ | refine E.q3 ?_ | refine E.q ?_ | refine E.qs ?_ | refine E.q2 ?_ | refine E.q4 ?_ | refine E.tr ?_ | refine E.ap (fun _ _ => ?_) | refine E.b1 (fun _ _ => ?_) | refine E.b0 (fun _ _ => ?_) | refine E.bsn (fun _ _ => ?_) | refine E.mk (fun _ _ => ?_) | refine E.bxO (fun _ => ?_) | refine E.al (fun _ => ?_) | refine E.sbO ?_ | refine E.dq ?_ | refine E.ct ?_ | refine E.cf ?_ | refine E.cs (fun hh => ?_) (fun hh => ?_) | refine E.at_block_other rfl ?_)
        · refine lq (fun p : Nat × Nat × List Nd => 1 ≤ p.1 ∧ k + p.1 ≤ xs.length ∧ Cmp2 xs p.2.2 (k + p.1) p.2.1) (fun p => [(5, .pl (.int .i64 (p.1 : Int))), (3, .pl (.int .i64 (p.2.1 : Int)))]) (fun p => [ownF 32 v p.2.2]) (fun p => xs.length - p.1) (1, k, xs) ⟨Nat.le_refl _, by omega, hst⟩ (fun p hp => ?_)
          obtain ⟨k2, kk, ys⟩ := p
          obtain ⟨h1, h3, hC⟩ := hp
          dsimp only at h1 h3 hC ⊢
          have hyl := hC.len
          have hkk := hC.kl h3
          have hclt := hC.lt
          have hs2 : RdIn w0 [ownF 32 v ys] (E.part v 2 k xs.length) (ys.drop k) := RdIn.partO hyl (by omega)
          have hdl : (ys.drop k).length = xs.length - k := by rw [List.length_drop, hyl]
          rcases Nat.lt_or_ge (k + k2) xs.length with hlt2 | hge2
          · obtain ⟨⟨ul, un⟩, hu⟩ := get_lt hlt2
            obtain ⟨⟨tl, tn⟩, ht⟩ := get_lt (show k + k2 - 1 < xs.length by omega)
            obtain ⟨⟨al, an⟩, ha⟩ := get_lt hkk
            have hkb2 := keepB_iff (by omega) hu ht
            have hu' : (ys.drop k)[k2]? = some ⟨ul, un⟩ := by rw [List.getElem?_drop, hC.hi _ (by omega)]; exact hu
            have ht' : (ys.drop k)[((k2 : Int) - 1).toNat]? = some ⟨tl, tn⟩ := by rw [List.getElem?_drop, hC.hi _ (by omega), show k + ((k2 : Int) - 1).toNat = k + k2 - 1 from by omega]; exact ht
            cases hkv2 : keepB xs (k + k2) with
            | true =>
              rw [hkv2] at hkb2
              have hd2 : decide ((⟨ul, un⟩ : Nd) = ⟨tl, tn⟩) = false := by cases h : decide ((⟨ul, un⟩ : Nd) = ⟨tl, tn⟩) <;> simp_all
              repeat' (first | refine E.st ?_ | refine E.q3 ?_ | refine E.q ?_ | refine E.qs ?_ | refine E.q2 ?_ | refine E.q4 ?_ | refine E.tr ?_ | refine E.ap (fun _ _ => ?_) | refine E.b1 (fun _ _ => ?_) | refine E.b0 (fun _ _ => ?_) | refine E.bsn (fun _ _ => ?_) | refine E.mk (fun _ _ => ?_) | refine E.bxO (fun _ => ?_) | refine E.al (fun _ => ?_) | refine E.sbO ?_ | refine E.dq ?_ | refine E.ct ?_ | refine E.cf ?_ | refine E.cs (fun hh => ?_) (fun hh => ?_) | refine E.at_block_other rfl ?_)
              · exact rd (α := Nat × Nat × List Nd) (k2 + 1, kk + 1, ys.set kk ⟨ul, un⟩) ⟨by dsimp only; omega, by dsimp only; omega, hC.keep hlt2 hu hkv2⟩
              · exfalso; simp_all
            | false =>
              rw [hkv2] at hkb2
              have hut : (⟨ul, un⟩ : Nd) = ⟨tl, tn⟩ := by
                cases h : decide ((⟨ul, un⟩ : Nd) = ⟨tl, tn⟩) with
                | true => exact of_decide_eq_true h
                | false => rw [h] at hkb2; cases hkb2
              injection hut with e1 e2
              subst e1 e2
              repeat' (first | refine E.st ?_ | refine E.q3 ?_ | refine E.q ?_ | refine E.qs ?_ | refine E.q2 ?_ | refine E.q4 ?_ | refine E.tr ?_ | refine E.ap (fun _ _ => ?_) | refine E.b1 (fun _ _ => ?_) | refine E.b0 (fun _ _ => ?_) | refine E.bsn (fun _ _ => ?_) | refine E.mk (fun _ _ => ?_) | refine E.bxO (fun _ => ?_) | refine E.al (fun _ => ?_) | refine E.sbO ?_ | refine E.dq ?_ | refine E.ct ?_ | refine E.cf ?_ | refine E.cs (fun hh => ?_) (fun hh => ?_) | refine E.at_block_other rfl ?_)
              · exfalso; simp at hh
              · exact rd (α := Nat × Nat × List Nd) (k2 + 1, kk, ys) ⟨by dsimp only; omega, by dsimp only; omega, hC.skip hlt2 hkv2⟩
          · have hmn : k + k2 = xs.length := by omega
            have hlo := hC.lo
            rw [hmn] at hlo
            repeat' (first | refine E.st ?_ | refine E.clr (fun R hR1 hR2 => ?_) | refine E.q3 ?_ | refine E.q ?_ | refine E.qs ?_ | refine E.q2 ?_ | refine E.q4 ?_ | refine E.tr ?_ | refine E.ap (fun _ _ => ?_) | refine E.b1 (fun _ _ => ?_) | refine E.b0 (fun _ _ => ?_) | refine E.bsn (fun _ _ => ?_) | refine E.mk (fun _ _ => ?_) | refine E.bxO (fun _ => ?_) | refine E.al (fun _ => ?_) | refine E.sbO ?_ | refine E.dq ?_ | refine E.ct ?_ | refine E.cf ?_ | refine E.cs (fun hh => ?_) (fun hh => ?_) | refine E.at_block_other rfl ?_)
            refine at_shrink (xs := R) (e := 32) (v := v) (k := kk) (by omega) ?_
            rw [hR2, hlo]
            exact r1K (α := { v' : Value // v'.oneCell' = true }) ⟨_, hop _⟩
        · exfalso; simp_all
    · repeat' (first | refine E.st ?_ | refine E.q3 ?_ | refine E.q ?_ | refine E.qs ?_ | refine E.q2 ?_ | refine E.q4 ?_ | refine E.tr ?_ | refine E.ap (fun _ _ => ?_) | refine E.b1 (fun _ _ => ?_) | refine E.b0 (fun _ _ => ?_) | refine E.bsn (fun _ _ => ?_) | refine E.mk (fun _ _ => ?_) | refine E.bxO (fun _ => ?_) | refine E.al (fun _ => ?_) | refine E.sbO ?_ | refine E.dq ?_ | refine E.ct ?_ | refine E.cf ?_ | refine E.cs (fun hh => ?_) (fun hh => ?_) | refine E.at_block_other rfl ?_)
      rw [compU_all (Nat.le_refl _) (fun j hj => hall j (by omega)), List.take_length]
      exact r1K (α := { v' : Value // v'.oneCell' = true }) ⟨v, ho⟩
end E
end Go.Proofs.YtpiiapoafmnhhaaGreat
/- slices.SortFunc at the program's nodes; what is near a node. -/
namespace Go.Proofs.YtpiiapoafmnhhaaGreat
namespace E
open Go Go.RowKit Go.Sort
theorem ndk_of {xs : List Nd} (h : ∀ x ∈ xs, nok x = true) : ∃ ys : List NdK, ys.map Subtype.val = xs := by
  induction xs with
  | nil => exact ⟨[], rfl⟩
  | cons x xs ih =>
    obtain ⟨ys, hy⟩ := ih (fun z hz => h z (List.mem_cons_of_mem _ hz))
    exact ⟨⟨x, h x List.mem_cons_self⟩ :: ys, by simp [hy]⟩
theorem sorted_of {d d' : Array NdK} (hp : PermIn 0 d.size d d') (hs : SortedIn (ltOf cfN) 0 d.size d') : (d'.toList.map Subtype.val).Perm (d.toList.map Subtype.val) ∧ (d'.toList.map Subtype.val).Pairwise (fun a b => cd a ≤ cd b) := by
  obtain ⟨h1, _, h2⟩ := hp
  constructor
  · have e1 : (d'.extract 0 d.size).toList = d'.toList := by rw [← h1]; simp
    have e2 : (d.extract 0 d.size).toList = d.toList := by simp
    rw [e1, e2] at h2
    exact h2.map _
  · rw [List.pairwise_map]
    refine List.pairwise_iff_getElem.2 (fun i j hi hj hij => ?_)
    have hj' : j < d'.size := by simpa using hj
    have h3 := hs i j (Nat.zero_le _) hij (by omega)
    rw [ltN, getElem!_pos d' j hj', getElem!_pos d' i (by omega)] at h3
    have := of_decide_eq_false h3
    simp only [Array.getElem_toList]
    omega
theorem sort_calls {v : Value} {xs : List NdK} {w0 : World} {K : List Ck} (w : World) (hw : KOk w0 (ownF 32 v xs :: K) w) (hl : xs.length ≤ 1000) :
    Calls Tryz.prog 135 #[v, .func (.func 136) #[] #[]] w (RetK (fun _ : { ys : List Nd // ys.Perm (xs.map Subtype.val) ∧ ys.Pairwise (fun a b => cd a ≤ cd b) } => .tuple #[]) (fun z => ownF 32 v z.1 :: K) w0) := by
  have hown := hw.holds _ List.mem_cons_self
  rcases hown.2 with ⟨rfl, h0⟩ | ⟨g, cap, cur, rfl, hB, hh, hnc, hcm, hcur, htk⟩
  · have hx : xs = [] := List.eq_nil_of_length_eq_zero h0
    subst hx
    have h := AnyF.slices_SortFunc_none sortL none 0 (.func (.func 136) #[] #[]) w
    refine h.mono (fun e w' h => ?_)
    obtain ⟨rfl, rfl⟩ := h
    exact ⟨⟨[], List.Perm.refl _, List.Pairwise.nil⟩, rfl, hw⟩
  · have hlt : g < w.heap.size := by
      rcases Nat.lt_or_ge g w.heap.size with h | h
      · exact h
      · rw [Array.getElem?_eq_none h] at hh; cases hh
    have h := AnyQ.slices_SortFunc sortL 2 Tryz.isAgg32 Tryz.sizeOf32 (Flat.f (α := NdK)) Flat.len Flat.one cfN swoN 136 #[] g 0 cap xs.toArray w (enters_of Tryz.func136 (by kernel_rfl) rfl) (s_lays g 0 _ w) (own_holds (B := 0) hh hnc hcur htk) hlt (by simp; omega)
    refine h.mono (fun e w' h => ?_)
    obtain ⟨rfl, d', n, os, hp, hs, rfl⟩ := h
    have hso := sorted_of hp hs
    refine ⟨⟨d'.toList.map Subtype.val, by simpa using hso.1, hso.2⟩, rfl, ?_⟩
    change KOk w0 (ownF 32 _ (d'.toList.map Subtype.val) :: K) _
    rw [ownF_val]
    exact own_sorted hw (by have := hp.1; simpa using this)
theorem c_sort {v : Value} {xs : List Nd} {w0 : World} {K : List Ck} (w : World) (hw : KOk w0 (ownF 32 v xs :: K) w) (hn : ∀ x ∈ xs, nok x = true) (hl : xs.length ≤ 1000) :
    Calls Tryz.prog 135 #[v, .func (.func 136) #[] #[]] w (RetK (fun _ : { ys : List Nd // ys.Perm xs ∧ ys.Pairwise (fun a b => cd a ≤ cd b) } => .tuple #[]) (fun z => ownF 32 v z.1 :: K) w0) := by
  obtain ⟨ys, rfl⟩ := ndk_of hn
  rw [ownF_val] at hw
  exact sort_calls w hw (by simpa using hl)
/-! ### What is near a node, as the program collects it -/
def nearC (n : Nd) (e : Eg) : List Nd := if n = e.a then [e.b] else if n = e.b then [e.a] else []
theorem nearC_other {n : Nd} {e : Eg} {x : Nd} : x ∈ nearC n e ↔ other e n = some x := by
  unfold nearC other
  by_cases h1 : e.a = n
  · rw [if_pos h1.symm, if_pos h1]; simp [eq_comm]
  · rw [if_neg (fun h => h1 h.symm), if_neg h1]
    by_cases h2 : e.b = n
    · rw [if_pos h2.symm, if_pos h2]; simp [eq_comm]
    · rw [if_neg (fun h => h2 h.symm), if_neg h2]; simp
theorem nearC_len (n : Nd) (e : Eg) : (nearC n e).length ≤ 1 := by
  unfold nearC; split
  · simp
  · split <;> simp
theorem colC_len (n : Nd) : ∀ es : List Eg, (es.flatMap (nearC n)).length ≤ es.length
  | [] => by simp
  | e :: es => by
    have := colC_len n es
    have := nearC_len n e
    simp only [List.flatMap_cons, List.length_append, List.length_cons]
    omega
theorem colC_mem {es : List Eg} {n x : Nd} : x ∈ es.flatMap (nearC n) ↔ x ∈ nearL es n := by
  rw [mem_nearL, List.mem_flatMap]
  constructor
  · rintro ⟨e, he, hx⟩; exact ⟨e, he, nearC_other.1 hx⟩
  · rintro ⟨e, he, hx⟩; exact ⟨e, he, nearC_other.2 hx⟩
theorem colC_take {es : List Eg} {n : Nd} {k : Nat} {e : Eg} (h : es[k]? = some e) : (es.take (k + 1)).flatMap (nearC n) = (es.take k).flatMap (nearC n) ++ nearC n e := by
  rw [List.take_add_one, h, List.flatMap_append]
  simp
/-- Sorted, and each once: what is near. -/
theorem near_eq {es : List Eg} {n : Nd} {ys : List Nd} (he : ∀ e ∈ es, eok e = true) (hp : ys.Perm (es.flatMap (nearC n))) (hs : ys.Pairwise (fun a b => cd a ≤ cd b)) : compU ys ys.length = nearL es n := by
  have hn : ∀ x ∈ ys, nok x = true := fun x hx => by
    have h1 := colC_mem.1 (hp.mem_iff.1 hx)
    obtain ⟨e, h2, h3⟩ := mem_nearL.1 h1
    exact other_nok (he e h2) h3
  refine sorted_ext cd (compU_sorted hn hs (Nat.le_refl _)) (ord_nearL he).2 (fun x => ?_)
  rw [mem_compU (Nat.le_refl _), List.take_length, hp.mem_iff, colC_mem]
end E
end Go.Proofs.YtpiiapoafmnhhaaGreat
