/- Facts on the types of this program, each by its table (written by a program of this repo: gen_ty.py). -/
import Derived.Test.YtlepiheoiinpnaaDoorProg
import Derived.Test.YtlepiheoiinpnaaDoorEngM
namespace Go.Proofs.YtlepiheoiinpnaaDoor
namespace E
open Go Go.RowKit
set_option linter.unusedSimpArgs false
set_option linter.unusedVariables false
theorem mixed : Tryd.prog.follows .mixedOrders = true := by kernel_rfl
instance : TOne Tryd.prog 2 := ⟨fun _ => by kernel_rfl⟩
instance : TSize Tryd.prog 2 1 := ⟨fun _ => by kernel_rfl⟩
instance : TInt Tryd.prog 2 .i64 := ⟨by kernel_rfl⟩
instance : TOne Tryd.prog 3 := ⟨fun _ => by kernel_rfl⟩
instance : TSize Tryd.prog 3 1 := ⟨fun _ => by kernel_rfl⟩
instance : TInt Tryd.prog 3 .i64 := ⟨by kernel_rfl⟩
instance : TZero Tryd.prog 3 [.int .i64 0] := ⟨fun _ => ⟨(.int .i64 0), by kernel_rfl, rfl⟩⟩
theorem row_3 : (Tryd.prog.info? 3).map (fun i => (i.zero, i.size, i.bytes)) = some (some (.int .i64 0), 1, 8) := by kernel_rfl
instance : TRow Tryd.prog 3 1 8 := ⟨by obtain ⟨i, h1, h2, h3, h4⟩ := info_parts row_3; exact ⟨i, _, h1, h2, h3, h4, rfl, by decide⟩⟩
instance : TMk Tryd.prog 3 [.int .i64 0] 8 := ⟨by obtain ⟨i, h1, h2, h3, h4⟩ := info_parts row_3; exact ⟨i, _, h1, h2, h3, h4, rfl⟩⟩
instance : TOne Tryd.prog 4 := ⟨fun _ => by kernel_rfl⟩
instance : TSize Tryd.prog 4 1 := ⟨fun _ => by kernel_rfl⟩
instance : TBool Tryd.prog 4 := ⟨by kernel_rfl⟩
instance : TOne Tryd.prog 5 := ⟨fun _ => by kernel_rfl⟩
instance : TSize Tryd.prog 5 1 := ⟨fun _ => by kernel_rfl⟩
instance : TInt Tryd.prog 5 .u8 := ⟨by kernel_rfl⟩
instance : TZero Tryd.prog 5 [.int .u8 0] := ⟨fun _ => ⟨(.int .u8 0), by kernel_rfl, rfl⟩⟩
theorem row_5 : (Tryd.prog.info? 5).map (fun i => (i.zero, i.size, i.bytes)) = some (some (.int .u8 0), 1, 1) := by kernel_rfl
instance : TRow Tryd.prog 5 1 1 := ⟨by obtain ⟨i, h1, h2, h3, h4⟩ := info_parts row_5; exact ⟨i, _, h1, h2, h3, h4, rfl, by decide⟩⟩
instance : TMk Tryd.prog 5 [.int .u8 0] 1 := ⟨by obtain ⟨i, h1, h2, h3, h4⟩ := info_parts row_5; exact ⟨i, _, h1, h2, h3, h4, rfl⟩⟩
instance : TOne Tryd.prog 9 := ⟨fun _ => by kernel_rfl⟩
instance : TSize Tryd.prog 9 1 := ⟨fun _ => by kernel_rfl⟩
instance : TStr Tryd.prog 9 := ⟨by kernel_rfl⟩
instance : TZero Tryd.prog 9 [.string ⟨#[]⟩] := ⟨fun _ => ⟨(.string ⟨#[]⟩), by kernel_rfl, rfl⟩⟩
theorem row_9 : (Tryd.prog.info? 9).map (fun i => (i.zero, i.size, i.bytes)) = some (some (.string ⟨#[]⟩), 1, 16) := by kernel_rfl
instance : TRow Tryd.prog 9 1 16 := ⟨by obtain ⟨i, h1, h2, h3, h4⟩ := info_parts row_9; exact ⟨i, _, h1, h2, h3, h4, rfl, by decide⟩⟩
instance : TMk Tryd.prog 9 [.string ⟨#[]⟩] 16 := ⟨by obtain ⟨i, h1, h2, h3, h4⟩ := info_parts row_9; exact ⟨i, _, h1, h2, h3, h4, rfl⟩⟩
instance : TOne Tryd.prog 21 := ⟨fun _ => by kernel_rfl⟩
instance : TSize Tryd.prog 21 1 := ⟨fun _ => by kernel_rfl⟩
instance : TInt Tryd.prog 21 .i32 := ⟨by kernel_rfl⟩
instance : TAgg Tryd.prog 23 2 := ⟨fun _ => by kernel_rfl, fun _ => by kernel_rfl⟩
instance : TSize Tryd.prog 23 2 := ⟨fun _ => by kernel_rfl⟩
instance : TFld Tryd.prog 23 0 0 := ⟨fun _ _ => by kernel_rfl⟩
instance : TFld Tryd.prog 23 1 1 := ⟨fun _ _ => by kernel_rfl⟩
instance : TAgg Tryd.prog 25 2 := ⟨fun _ => by kernel_rfl, fun _ => by kernel_rfl⟩
instance : TSize Tryd.prog 25 2 := ⟨fun _ => by kernel_rfl⟩
instance : TFld Tryd.prog 25 0 0 := ⟨fun _ _ => by kernel_rfl⟩
instance : TFld Tryd.prog 25 1 1 := ⟨fun _ _ => by kernel_rfl⟩
instance : TZero Tryd.prog 25 [.int .i64 0, .int .i64 0] := ⟨fun _ => ⟨(.agg #[.int .i64 0, .int .i64 0]), by kernel_rfl, rfl⟩⟩
instance : TOne Tryd.prog 32 := ⟨fun _ => by kernel_rfl⟩
instance : TSize Tryd.prog 32 1 := ⟨fun _ => by kernel_rfl⟩
instance : TSlc Tryd.prog 32 5 := ⟨by kernel_rfl⟩
instance : TOne Tryd.prog 38 := ⟨fun _ => by kernel_rfl⟩
instance : TSize Tryd.prog 38 1 := ⟨fun _ => by kernel_rfl⟩
instance : TSlc Tryd.prog 38 9 := ⟨by kernel_rfl⟩
instance : TOne Tryd.prog 44 := ⟨fun _ => by kernel_rfl⟩
instance : TSize Tryd.prog 44 1 := ⟨fun _ => by kernel_rfl⟩
instance : TAgg Tryd.prog 51 8 := ⟨fun _ => by kernel_rfl, fun _ => by kernel_rfl⟩
instance : TSize Tryd.prog 51 8 := ⟨fun _ => by kernel_rfl⟩
instance : TArr Tryd.prog 51 8 9 := ⟨by kernel_rfl⟩
instance : TOne Tryd.prog 54 := ⟨fun _ => by kernel_rfl⟩
instance : TSize Tryd.prog 54 1 := ⟨fun _ => by kernel_rfl⟩
instance : TOne Tryd.prog 58 := ⟨fun _ => by kernel_rfl⟩
instance : TSize Tryd.prog 58 1 := ⟨fun _ => by kernel_rfl⟩
instance : TSlc Tryd.prog 58 3 := ⟨by kernel_rfl⟩
instance : TAgg Tryd.prog 61 2 := ⟨fun _ => by kernel_rfl, fun _ => by kernel_rfl⟩
instance : TSize Tryd.prog 61 2 := ⟨fun _ => by kernel_rfl⟩
instance : TFld Tryd.prog 61 0 0 := ⟨fun _ _ => by kernel_rfl⟩
instance : TFld Tryd.prog 61 1 1 := ⟨fun _ _ => by kernel_rfl⟩
instance : TAgg Tryd.prog 65 24 := ⟨fun _ => by kernel_rfl, fun _ => by kernel_rfl⟩
instance : TSize Tryd.prog 65 24 := ⟨fun _ => by kernel_rfl⟩
instance : TArr Tryd.prog 65 24 5 := ⟨by kernel_rfl⟩
instance : TZero Tryd.prog 65 [.int .u8 0, .int .u8 0, .int .u8 0, .int .u8 0, .int .u8 0, .int .u8 0, .int .u8 0, .int .u8 0, .int .u8 0, .int .u8 0, .int .u8 0, .int .u8 0, .int .u8 0, .int .u8 0, .int .u8 0, .int .u8 0, .int .u8 0, .int .u8 0, .int .u8 0, .int .u8 0, .int .u8 0, .int .u8 0, .int .u8 0, .int .u8 0] := ⟨fun _ => ⟨(.agg #[.int .u8 0, .int .u8 0, .int .u8 0, .int .u8 0, .int .u8 0, .int .u8 0, .int .u8 0, .int .u8 0, .int .u8 0, .int .u8 0, .int .u8 0, .int .u8 0, .int .u8 0, .int .u8 0, .int .u8 0, .int .u8 0, .int .u8 0, .int .u8 0, .int .u8 0, .int .u8 0, .int .u8 0, .int .u8 0, .int .u8 0, .int .u8 0]), by kernel_rfl, rfl⟩⟩
instance : TOne Tryd.prog 66 := ⟨fun _ => by kernel_rfl⟩
instance : TSize Tryd.prog 66 1 := ⟨fun _ => by kernel_rfl⟩
instance : TInt Tryd.prog 66 .u64 := ⟨by kernel_rfl⟩
instance : TOne Tryd.prog 72 := ⟨fun _ => by kernel_rfl⟩
instance : TSize Tryd.prog 72 1 := ⟨fun _ => by kernel_rfl⟩
instance : TInt Tryd.prog 72 .u64 := ⟨by kernel_rfl⟩
instance : TAgg Tryd.prog 81 20 := ⟨fun _ => by kernel_rfl, fun _ => by kernel_rfl⟩
instance : TSize Tryd.prog 81 20 := ⟨fun _ => by kernel_rfl⟩
instance : TArr Tryd.prog 81 20 66 := ⟨by kernel_rfl⟩
instance : TOne Tryd.prog 82 := ⟨fun _ => by kernel_rfl⟩
instance : TSize Tryd.prog 82 1 := ⟨fun _ => by kernel_rfl⟩
instance : TInt Tryd.prog 82 .u32 := ⟨by kernel_rfl⟩
instance : TAgg Tryd.prog 83 65 := ⟨fun _ => by kernel_rfl, fun _ => by kernel_rfl⟩
instance : TSize Tryd.prog 83 65 := ⟨fun _ => by kernel_rfl⟩
instance : TArr Tryd.prog 83 65 5 := ⟨by kernel_rfl⟩
instance : TZero Tryd.prog 83 [.int .u8 0, .int .u8 0, .int .u8 0, .int .u8 0, .int .u8 0, .int .u8 0, .int .u8 0, .int .u8 0, .int .u8 0, .int .u8 0, .int .u8 0, .int .u8 0, .int .u8 0, .int .u8 0, .int .u8 0, .int .u8 0, .int .u8 0, .int .u8 0, .int .u8 0, .int .u8 0, .int .u8 0, .int .u8 0, .int .u8 0, .int .u8 0, .int .u8 0, .int .u8 0, .int .u8 0, .int .u8 0, .int .u8 0, .int .u8 0, .int .u8 0, .int .u8 0, .int .u8 0, .int .u8 0, .int .u8 0, .int .u8 0, .int .u8 0, .int .u8 0, .int .u8 0, .int .u8 0, .int .u8 0, .int .u8 0, .int .u8 0, .int .u8 0, .int .u8 0, .int .u8 0, .int .u8 0, .int .u8 0, .int .u8 0, .int .u8 0, .int .u8 0, .int .u8 0, .int .u8 0, .int .u8 0, .int .u8 0, .int .u8 0, .int .u8 0, .int .u8 0, .int .u8 0, .int .u8 0, .int .u8 0, .int .u8 0, .int .u8 0, .int .u8 0, .int .u8 0] := ⟨fun _ => ⟨(.agg #[.int .u8 0, .int .u8 0, .int .u8 0, .int .u8 0, .int .u8 0, .int .u8 0, .int .u8 0, .int .u8 0, .int .u8 0, .int .u8 0, .int .u8 0, .int .u8 0, .int .u8 0, .int .u8 0, .int .u8 0, .int .u8 0, .int .u8 0, .int .u8 0, .int .u8 0, .int .u8 0, .int .u8 0, .int .u8 0, .int .u8 0, .int .u8 0, .int .u8 0, .int .u8 0, .int .u8 0, .int .u8 0, .int .u8 0, .int .u8 0, .int .u8 0, .int .u8 0, .int .u8 0, .int .u8 0, .int .u8 0, .int .u8 0, .int .u8 0, .int .u8 0, .int .u8 0, .int .u8 0, .int .u8 0, .int .u8 0, .int .u8 0, .int .u8 0, .int .u8 0, .int .u8 0, .int .u8 0, .int .u8 0, .int .u8 0, .int .u8 0, .int .u8 0, .int .u8 0, .int .u8 0, .int .u8 0, .int .u8 0, .int .u8 0, .int .u8 0, .int .u8 0, .int .u8 0, .int .u8 0, .int .u8 0, .int .u8 0, .int .u8 0, .int .u8 0, .int .u8 0]), by kernel_rfl, rfl⟩⟩
instance : TAgg Tryd.prog 91 3 := ⟨fun _ => by kernel_rfl, fun _ => by kernel_rfl⟩
instance : TSize Tryd.prog 91 3 := ⟨fun _ => by kernel_rfl⟩
instance : TFld Tryd.prog 91 0 0 := ⟨fun _ _ => by kernel_rfl⟩
instance : TFld Tryd.prog 91 1 1 := ⟨fun _ _ => by kernel_rfl⟩
instance : TFld Tryd.prog 91 2 2 := ⟨fun _ _ => by kernel_rfl⟩
instance : TOne Tryd.prog 95 := ⟨fun _ => by kernel_rfl⟩
instance : TSize Tryd.prog 95 1 := ⟨fun _ => by kernel_rfl⟩
instance : TAgg Tryd.prog 98 1 := ⟨fun _ => by kernel_rfl, fun _ => by kernel_rfl⟩
instance : TSize Tryd.prog 98 1 := ⟨fun _ => by kernel_rfl⟩
instance : TFld Tryd.prog 98 0 0 := ⟨fun _ _ => by kernel_rfl⟩
instance : TAgg Tryd.prog 99 32 := ⟨fun _ => by kernel_rfl, fun _ => by kernel_rfl⟩
instance : TSize Tryd.prog 99 32 := ⟨fun _ => by kernel_rfl⟩
instance : TArr Tryd.prog 99 32 5 := ⟨by kernel_rfl⟩
instance : TAgg Tryd.prog 100 64 := ⟨fun _ => by kernel_rfl, fun _ => by kernel_rfl⟩
instance : TSize Tryd.prog 100 64 := ⟨fun _ => by kernel_rfl⟩
instance : TArr Tryd.prog 100 64 5 := ⟨by kernel_rfl⟩
instance : TLay Tryd.prog 25 [.int .i64 0, .int .i64 0] #[(0, 1), (1, 1)] := ⟨fun _ => ⟨.agg #[.int .i64 0, .int .i64 0], by kernel_rfl, rfl⟩, ⟨Tryd.prog.fieldsOf 25, by kernel_rfl, fun _ => by kernel_rfl⟩⟩
instance : TLay Tryd.prog 61 [.slice none 0 0, .int .i64 0] #[(0, 1), (1, 1)] := ⟨fun _ => ⟨.agg #[.slice none 0 0, .int .i64 0], by kernel_rfl, rfl⟩, ⟨Tryd.prog.fieldsOf 61, by kernel_rfl, fun _ => by kernel_rfl⟩⟩
instance : TLay Tryd.prog 91 [.string ⟨#[]⟩, .string ⟨#[]⟩, .nilIface] #[(0, 1), (1, 1), (2, 1)] := ⟨fun _ => ⟨.agg #[.string ⟨#[]⟩, .string ⟨#[]⟩, .nilIface], by kernel_rfl, rfl⟩, ⟨Tryd.prog.fieldsOf 91, by kernel_rfl, fun _ => by kernel_rfl⟩⟩
instance : TLay Tryd.prog 98 [.string ⟨#[]⟩] #[(0, 1)] := ⟨fun _ => ⟨.agg #[.string ⟨#[]⟩], by kernel_rfl, rfl⟩, ⟨Tryd.prog.fieldsOf 98, by kernel_rfl, fun _ => by kernel_rfl⟩⟩
theorem eqi_23 (d : Nat) (a0 a1 b0 b1 : Int) (w : World) : (Op.equalIn (d + 2) 23 (.agg #[.int .i64 a0, .int .i64 a1]) (.agg #[.int .i64 b0, .int .i64 b1])).run Tryd.prog w = .ok (decide (a0 = b0) && (decide (a1 = b1) && true)) w := by
  rw [run_equalIn_struct w (d + 1) 23 _ _ (by kernel_rfl) (by kernel_rfl)]
  have h : (Tryd.prog.fieldsOf 23).toList.map (fun f => (f.name, f.type, f.offset)) = [("Label", 3, 0), ("Num", 3, 1)] := by kernel_rfl
  generalize (Tryd.prog.fieldsOf 23).toList = fs at h
  have hl : fs.length = 2 := by simpa using congrArg List.length h
  match fs, hl, h with
  | [f0, f1], _, h =>
    simp only [List.map_cons, List.map_nil, List.cons.injEq, Prod.mk.injEq, and_true] at h
    obtain ⟨⟨n0, t0, o0⟩, n1, t1, o1⟩ := h
    exact (eqF_int (t := 3) _ _ _ w _ _ _ _ (by rw [n0]; decide) t0 (by rw [o0]; rfl) (by rw [o0]; rfl) _ (eqF_int (t := 3) _ _ _ w _ _ _ _ (by rw [n1]; decide) t1 (by rw [o1]; rfl) (by rw [o1]; rfl) _ (eqF_nil _ _ _ _)))
instance : TEqI Tryd.prog 23 2 := ⟨by kernel_rfl, fun is js hi hj w => by
  match is, js, hi, hj with
  | [a0, a1], [b0, b1], _, _ =>
    have h := eqi_23 (10000 - 2) a0 a1 b0 b1 w
    refine h.trans ?_
    simp [Bool.decide_and, Bool.and_assoc]⟩
theorem eqi_25 (d : Nat) (a0 a1 b0 b1 : Int) (w : World) : (Op.equalIn (d + 2) 25 (.agg #[.int .i64 a0, .int .i64 a1]) (.agg #[.int .i64 b0, .int .i64 b1])).run Tryd.prog w = .ok (decide (a0 = b0) && (decide (a1 = b1) && true)) w := by
  rw [run_equalIn_struct w (d + 1) 25 _ _ (by kernel_rfl) (by kernel_rfl)]
  have h : (Tryd.prog.fieldsOf 25).toList.map (fun f => (f.name, f.type, f.offset)) = [("Label", 3, 0), ("Num", 3, 1)] := by kernel_rfl
  generalize (Tryd.prog.fieldsOf 25).toList = fs at h
  have hl : fs.length = 2 := by simpa using congrArg List.length h
  match fs, hl, h with
  | [f0, f1], _, h =>
    simp only [List.map_cons, List.map_nil, List.cons.injEq, Prod.mk.injEq, and_true] at h
    obtain ⟨⟨n0, t0, o0⟩, n1, t1, o1⟩ := h
    exact (eqF_int (t := 3) _ _ _ w _ _ _ _ (by rw [n0]; decide) t0 (by rw [o0]; rfl) (by rw [o0]; rfl) _ (eqF_int (t := 3) _ _ _ w _ _ _ _ (by rw [n1]; decide) t1 (by rw [o1]; rfl) (by rw [o1]; rfl) _ (eqF_nil _ _ _ _)))
instance : TEqI Tryd.prog 25 2 := ⟨by kernel_rfl, fun is js hi hj w => by
  match is, js, hi, hj with
  | [a0, a1], [b0, b1], _, _ =>
    have h := eqi_25 (10000 - 2) a0 a1 b0 b1 w
    refine h.trans ?_
    simp [Bool.decide_and, Bool.and_assoc]⟩
instance : FnOk Tryd.prog 2 := ⟨⟨_, Tryd.func2, rfl, beq_eq_false_iff_ne.1 (by kernel_rfl)⟩⟩
instance : FnOk Tryd.prog 3 := ⟨⟨_, Tryd.func3, rfl, beq_eq_false_iff_ne.1 (by kernel_rfl)⟩⟩
instance : FnOk Tryd.prog 4 := ⟨⟨_, Tryd.func4, rfl, beq_eq_false_iff_ne.1 (by kernel_rfl)⟩⟩
instance : FnOk Tryd.prog 5 := ⟨⟨_, Tryd.func5, rfl, beq_eq_false_iff_ne.1 (by kernel_rfl)⟩⟩
instance : FnOk Tryd.prog 6 := ⟨⟨_, Tryd.func6, rfl, beq_eq_false_iff_ne.1 (by kernel_rfl)⟩⟩
instance : FnOk Tryd.prog 7 := ⟨⟨_, Tryd.func7, rfl, beq_eq_false_iff_ne.1 (by kernel_rfl)⟩⟩
instance : FnOk Tryd.prog 8 := ⟨⟨_, Tryd.func8, rfl, beq_eq_false_iff_ne.1 (by kernel_rfl)⟩⟩
instance : FnOk Tryd.prog 9 := ⟨⟨_, Tryd.func9, rfl, beq_eq_false_iff_ne.1 (by kernel_rfl)⟩⟩
instance : FnOk Tryd.prog 10 := ⟨⟨_, Tryd.func10, rfl, beq_eq_false_iff_ne.1 (by kernel_rfl)⟩⟩
instance : FnOk Tryd.prog 11 := ⟨⟨_, Tryd.func11, rfl, beq_eq_false_iff_ne.1 (by kernel_rfl)⟩⟩
instance : FnOk Tryd.prog 12 := ⟨⟨_, Tryd.func12, rfl, beq_eq_false_iff_ne.1 (by kernel_rfl)⟩⟩
instance : FnOk Tryd.prog 13 := ⟨⟨_, Tryd.func13, rfl, beq_eq_false_iff_ne.1 (by kernel_rfl)⟩⟩
instance : FnOk Tryd.prog 14 := ⟨⟨_, Tryd.func14, rfl, beq_eq_false_iff_ne.1 (by kernel_rfl)⟩⟩
instance : FnOk Tryd.prog 15 := ⟨⟨_, Tryd.func15, rfl, beq_eq_false_iff_ne.1 (by kernel_rfl)⟩⟩
instance : FnOk Tryd.prog 16 := ⟨⟨_, Tryd.func16, rfl, beq_eq_false_iff_ne.1 (by kernel_rfl)⟩⟩
instance : FnOk Tryd.prog 17 := ⟨⟨_, Tryd.func17, rfl, beq_eq_false_iff_ne.1 (by kernel_rfl)⟩⟩
instance : FnOk Tryd.prog 18 := ⟨⟨_, Tryd.func18, rfl, beq_eq_false_iff_ne.1 (by kernel_rfl)⟩⟩
instance : FnOk Tryd.prog 19 := ⟨⟨_, Tryd.func19, rfl, beq_eq_false_iff_ne.1 (by kernel_rfl)⟩⟩
instance : FnOk Tryd.prog 20 := ⟨⟨_, Tryd.func20, rfl, beq_eq_false_iff_ne.1 (by kernel_rfl)⟩⟩
instance : FnOk Tryd.prog 21 := ⟨⟨_, Tryd.func21, rfl, beq_eq_false_iff_ne.1 (by kernel_rfl)⟩⟩
instance : FnOk Tryd.prog 22 := ⟨⟨_, Tryd.func22, rfl, beq_eq_false_iff_ne.1 (by kernel_rfl)⟩⟩
instance : FnOk Tryd.prog 23 := ⟨⟨_, Tryd.func23, rfl, beq_eq_false_iff_ne.1 (by kernel_rfl)⟩⟩
instance : FnOk Tryd.prog 24 := ⟨⟨_, Tryd.func24, rfl, beq_eq_false_iff_ne.1 (by kernel_rfl)⟩⟩
instance : FnOk Tryd.prog 25 := ⟨⟨_, Tryd.func25, rfl, beq_eq_false_iff_ne.1 (by kernel_rfl)⟩⟩
instance : FnOk Tryd.prog 26 := ⟨⟨_, Tryd.func26, rfl, beq_eq_false_iff_ne.1 (by kernel_rfl)⟩⟩
instance : FnOk Tryd.prog 27 := ⟨⟨_, Tryd.func27, rfl, beq_eq_false_iff_ne.1 (by kernel_rfl)⟩⟩
instance : FnOk Tryd.prog 28 := ⟨⟨_, Tryd.func28, rfl, beq_eq_false_iff_ne.1 (by kernel_rfl)⟩⟩
instance : FnOk Tryd.prog 29 := ⟨⟨_, Tryd.func29, rfl, beq_eq_false_iff_ne.1 (by kernel_rfl)⟩⟩
instance : FnOk Tryd.prog 30 := ⟨⟨_, Tryd.func30, rfl, beq_eq_false_iff_ne.1 (by kernel_rfl)⟩⟩
instance : FnOk Tryd.prog 31 := ⟨⟨_, Tryd.func31, rfl, beq_eq_false_iff_ne.1 (by kernel_rfl)⟩⟩
instance : FnOk Tryd.prog 32 := ⟨⟨_, Tryd.func32, rfl, beq_eq_false_iff_ne.1 (by kernel_rfl)⟩⟩
instance : FnOk Tryd.prog 33 := ⟨⟨_, Tryd.func33, rfl, beq_eq_false_iff_ne.1 (by kernel_rfl)⟩⟩
instance : FnOk Tryd.prog 34 := ⟨⟨_, Tryd.func34, rfl, beq_eq_false_iff_ne.1 (by kernel_rfl)⟩⟩
instance : FnOk Tryd.prog 35 := ⟨⟨_, Tryd.func35, rfl, beq_eq_false_iff_ne.1 (by kernel_rfl)⟩⟩
instance : FnOk Tryd.prog 36 := ⟨⟨_, Tryd.func36, rfl, beq_eq_false_iff_ne.1 (by kernel_rfl)⟩⟩
instance : FnOk Tryd.prog 37 := ⟨⟨_, Tryd.func37, rfl, beq_eq_false_iff_ne.1 (by kernel_rfl)⟩⟩
instance : FnOk Tryd.prog 38 := ⟨⟨_, Tryd.func38, rfl, beq_eq_false_iff_ne.1 (by kernel_rfl)⟩⟩
instance : FnOk Tryd.prog 39 := ⟨⟨_, Tryd.func39, rfl, beq_eq_false_iff_ne.1 (by kernel_rfl)⟩⟩
instance : FnOk Tryd.prog 40 := ⟨⟨_, Tryd.func40, rfl, beq_eq_false_iff_ne.1 (by kernel_rfl)⟩⟩
instance : FnOk Tryd.prog 41 := ⟨⟨_, Tryd.func41, rfl, beq_eq_false_iff_ne.1 (by kernel_rfl)⟩⟩
instance : FnOk Tryd.prog 42 := ⟨⟨_, Tryd.func42, rfl, beq_eq_false_iff_ne.1 (by kernel_rfl)⟩⟩
instance : FnOk Tryd.prog 43 := ⟨⟨_, Tryd.func43, rfl, beq_eq_false_iff_ne.1 (by kernel_rfl)⟩⟩
instance : FnOk Tryd.prog 44 := ⟨⟨_, Tryd.func44, rfl, beq_eq_false_iff_ne.1 (by kernel_rfl)⟩⟩
instance : FnOk Tryd.prog 45 := ⟨⟨_, Tryd.func45, rfl, beq_eq_false_iff_ne.1 (by kernel_rfl)⟩⟩
instance : FnOk Tryd.prog 46 := ⟨⟨_, Tryd.func46, rfl, beq_eq_false_iff_ne.1 (by kernel_rfl)⟩⟩
instance : FnOk Tryd.prog 47 := ⟨⟨_, Tryd.func47, rfl, beq_eq_false_iff_ne.1 (by kernel_rfl)⟩⟩
instance : FnOk Tryd.prog 48 := ⟨⟨_, Tryd.func48, rfl, beq_eq_false_iff_ne.1 (by kernel_rfl)⟩⟩
instance : FnOk Tryd.prog 49 := ⟨⟨_, Tryd.func49, rfl, beq_eq_false_iff_ne.1 (by kernel_rfl)⟩⟩
instance : FnOk Tryd.prog 50 := ⟨⟨_, Tryd.func50, rfl, beq_eq_false_iff_ne.1 (by kernel_rfl)⟩⟩
instance : FnOk Tryd.prog 52 := ⟨⟨_, Tryd.func52, rfl, beq_eq_false_iff_ne.1 (by kernel_rfl)⟩⟩
instance : FnOk Tryd.prog 53 := ⟨⟨_, Tryd.func53, rfl, beq_eq_false_iff_ne.1 (by kernel_rfl)⟩⟩
instance : FnOk Tryd.prog 54 := ⟨⟨_, Tryd.func54, rfl, beq_eq_false_iff_ne.1 (by kernel_rfl)⟩⟩
instance : FnOk Tryd.prog 55 := ⟨⟨_, Tryd.func55, rfl, beq_eq_false_iff_ne.1 (by kernel_rfl)⟩⟩
instance : FnOk Tryd.prog 56 := ⟨⟨_, Tryd.func56, rfl, beq_eq_false_iff_ne.1 (by kernel_rfl)⟩⟩
instance : FnOk Tryd.prog 57 := ⟨⟨_, Tryd.func57, rfl, beq_eq_false_iff_ne.1 (by kernel_rfl)⟩⟩
instance : FnOk Tryd.prog 58 := ⟨⟨_, Tryd.func58, rfl, beq_eq_false_iff_ne.1 (by kernel_rfl)⟩⟩
instance : FnOk Tryd.prog 59 := ⟨⟨_, Tryd.func59, rfl, beq_eq_false_iff_ne.1 (by kernel_rfl)⟩⟩
instance : FnOk Tryd.prog 60 := ⟨⟨_, Tryd.func60, rfl, beq_eq_false_iff_ne.1 (by kernel_rfl)⟩⟩
instance : FnOk Tryd.prog 61 := ⟨⟨_, Tryd.func61, rfl, beq_eq_false_iff_ne.1 (by kernel_rfl)⟩⟩
instance : FnOk Tryd.prog 62 := ⟨⟨_, Tryd.func62, rfl, beq_eq_false_iff_ne.1 (by kernel_rfl)⟩⟩
instance : FnOk Tryd.prog 63 := ⟨⟨_, Tryd.func63, rfl, beq_eq_false_iff_ne.1 (by kernel_rfl)⟩⟩
instance : FnOk Tryd.prog 64 := ⟨⟨_, Tryd.func64, rfl, beq_eq_false_iff_ne.1 (by kernel_rfl)⟩⟩
instance : FnOk Tryd.prog 66 := ⟨⟨_, Tryd.func66, rfl, beq_eq_false_iff_ne.1 (by kernel_rfl)⟩⟩
instance : FnOk Tryd.prog 67 := ⟨⟨_, Tryd.func67, rfl, beq_eq_false_iff_ne.1 (by kernel_rfl)⟩⟩
instance : FnOk Tryd.prog 68 := ⟨⟨_, Tryd.func68, rfl, beq_eq_false_iff_ne.1 (by kernel_rfl)⟩⟩
instance : FnOk Tryd.prog 69 := ⟨⟨_, Tryd.func69, rfl, beq_eq_false_iff_ne.1 (by kernel_rfl)⟩⟩
instance : FnOk Tryd.prog 70 := ⟨⟨_, Tryd.func70, rfl, beq_eq_false_iff_ne.1 (by kernel_rfl)⟩⟩
instance : FnOk Tryd.prog 71 := ⟨⟨_, Tryd.func71, rfl, beq_eq_false_iff_ne.1 (by kernel_rfl)⟩⟩
instance : FnOk Tryd.prog 72 := ⟨⟨_, Tryd.func72, rfl, beq_eq_false_iff_ne.1 (by kernel_rfl)⟩⟩
instance : FnOk Tryd.prog 73 := ⟨⟨_, Tryd.func73, rfl, beq_eq_false_iff_ne.1 (by kernel_rfl)⟩⟩
end E
end Go.Proofs.YtlepiheoiinpnaaDoor
