/- Facts on the types of this program, each by its table (written by a program of this repo: gen_ty.py). -/
import Derived.Test.YtbplkdibjjcomaaProg
import Derived.Test.YtbplkdibjjcomaaEngM
namespace Go.Proofs.Ytbplkdibjjcomaa
namespace E
open Go Go.RowKit
set_option linter.unusedSimpArgs false
set_option linter.unusedVariables false
theorem mixed : Try.prog.follows .mixedOrders = true := by kernel_rfl
instance : TOne Try.prog 3 := ⟨fun _ => by kernel_rfl⟩
instance : TSize Try.prog 3 1 := ⟨fun _ => by kernel_rfl⟩
instance : TInt Try.prog 3 .i64 := ⟨by kernel_rfl⟩
instance : TZero Try.prog 3 [.int .i64 0] := ⟨fun _ => ⟨(.int .i64 0), by kernel_rfl, rfl⟩⟩
theorem row_3 : (Try.prog.info? 3).map (fun i => (i.zero, i.size, i.bytes)) = some (some (.int .i64 0), 1, 8) := by kernel_rfl
instance : TRow Try.prog 3 1 8 := ⟨by obtain ⟨i, h1, h2, h3, h4⟩ := info_parts row_3; exact ⟨i, _, h1, h2, h3, h4, rfl, by decide⟩⟩
instance : TMk Try.prog 3 [.int .i64 0] 8 := ⟨by obtain ⟨i, h1, h2, h3, h4⟩ := info_parts row_3; exact ⟨i, _, h1, h2, h3, h4, rfl⟩⟩
instance : TOne Try.prog 4 := ⟨fun _ => by kernel_rfl⟩
instance : TSize Try.prog 4 1 := ⟨fun _ => by kernel_rfl⟩
instance : TBool Try.prog 4 := ⟨by kernel_rfl⟩
instance : TAgg Try.prog 23 3 := ⟨fun _ => by kernel_rfl, fun _ => by kernel_rfl⟩
instance : TSize Try.prog 23 3 := ⟨fun _ => by kernel_rfl⟩
instance : TFld Try.prog 23 0 0 := ⟨fun _ _ => by kernel_rfl⟩
instance : TFld Try.prog 23 1 1 := ⟨fun _ _ => by kernel_rfl⟩
instance : TFld Try.prog 23 2 2 := ⟨fun _ _ => by kernel_rfl⟩
instance : TZero Try.prog 23 [.int .i64 0, .int .i64 0, .int .i64 0] := ⟨fun _ => ⟨(.agg #[.int .i64 0, .int .i64 0, .int .i64 0]), by kernel_rfl, rfl⟩⟩
theorem row_23 : (Try.prog.info? 23).map (fun i => (i.zero, i.size, i.bytes)) = some (some (.agg #[.int .i64 0, .int .i64 0, .int .i64 0]), 3, 24) := by kernel_rfl
instance : TRow Try.prog 23 3 24 := ⟨by obtain ⟨i, h1, h2, h3, h4⟩ := info_parts row_23; exact ⟨i, _, h1, h2, h3, h4, rfl, by decide⟩⟩
instance : TMk Try.prog 23 [.int .i64 0, .int .i64 0, .int .i64 0] 24 := ⟨by obtain ⟨i, h1, h2, h3, h4⟩ := info_parts row_23; exact ⟨i, _, h1, h2, h3, h4, rfl⟩⟩
instance : TAgg Try.prog 25 3 := ⟨fun _ => by kernel_rfl, fun _ => by kernel_rfl⟩
instance : TSize Try.prog 25 3 := ⟨fun _ => by kernel_rfl⟩
instance : TFld Try.prog 25 0 0 := ⟨fun _ _ => by kernel_rfl⟩
instance : TFld Try.prog 25 1 1 := ⟨fun _ _ => by kernel_rfl⟩
instance : TFld Try.prog 25 2 2 := ⟨fun _ _ => by kernel_rfl⟩
instance : TZero Try.prog 25 [.int .i64 0, .int .i64 0, .int .i64 0] := ⟨fun _ => ⟨(.agg #[.int .i64 0, .int .i64 0, .int .i64 0]), by kernel_rfl, rfl⟩⟩
theorem row_25 : (Try.prog.info? 25).map (fun i => (i.zero, i.size, i.bytes)) = some (some (.agg #[.int .i64 0, .int .i64 0, .int .i64 0]), 3, 24) := by kernel_rfl
instance : TRow Try.prog 25 3 24 := ⟨by obtain ⟨i, h1, h2, h3, h4⟩ := info_parts row_25; exact ⟨i, _, h1, h2, h3, h4, rfl, by decide⟩⟩
instance : TMk Try.prog 25 [.int .i64 0, .int .i64 0, .int .i64 0] 24 := ⟨by obtain ⟨i, h1, h2, h3, h4⟩ := info_parts row_25; exact ⟨i, _, h1, h2, h3, h4, rfl⟩⟩
instance : TAgg Try.prog 29 2 := ⟨fun _ => by kernel_rfl, fun _ => by kernel_rfl⟩
instance : TSize Try.prog 29 2 := ⟨fun _ => by kernel_rfl⟩
instance : TFld Try.prog 29 0 0 := ⟨fun _ _ => by kernel_rfl⟩
instance : TFld Try.prog 29 1 1 := ⟨fun _ _ => by kernel_rfl⟩
instance : TAgg Try.prog 31 3 := ⟨fun _ => by kernel_rfl, fun _ => by kernel_rfl⟩
instance : TSize Try.prog 31 3 := ⟨fun _ => by kernel_rfl⟩
instance : TFld Try.prog 31 0 0 := ⟨fun _ _ => by kernel_rfl⟩
instance : TFld Try.prog 31 1 1 := ⟨fun _ _ => by kernel_rfl⟩
instance : TAgg Try.prog 33 2 := ⟨fun _ => by kernel_rfl, fun _ => by kernel_rfl⟩
instance : TSize Try.prog 33 2 := ⟨fun _ => by kernel_rfl⟩
instance : TFld Try.prog 33 0 0 := ⟨fun _ _ => by kernel_rfl⟩
instance : TFld Try.prog 33 1 1 := ⟨fun _ _ => by kernel_rfl⟩
instance : TZero Try.prog 33 [.int .i64 0, .int .i64 0] := ⟨fun _ => ⟨(.agg #[.int .i64 0, .int .i64 0]), by kernel_rfl, rfl⟩⟩
instance : TAgg Try.prog 35 3 := ⟨fun _ => by kernel_rfl, fun _ => by kernel_rfl⟩
instance : TSize Try.prog 35 3 := ⟨fun _ => by kernel_rfl⟩
instance : TFld Try.prog 35 0 0 := ⟨fun _ _ => by kernel_rfl⟩
instance : TFld Try.prog 35 1 1 := ⟨fun _ _ => by kernel_rfl⟩
instance : TZero Try.prog 35 [.int .i64 0, .int .i64 0, .int .i64 0] := ⟨fun _ => ⟨(.agg #[.int .i64 0, .int .i64 0, .int .i64 0]), by kernel_rfl, rfl⟩⟩
instance : TOne Try.prog 38 := ⟨fun _ => by kernel_rfl⟩
instance : TSize Try.prog 38 1 := ⟨fun _ => by kernel_rfl⟩
instance : TSlc Try.prog 38 64 := ⟨by kernel_rfl⟩
instance : TOne Try.prog 41 := ⟨fun _ => by kernel_rfl⟩
instance : TSize Try.prog 41 1 := ⟨fun _ => by kernel_rfl⟩
instance : TSlc Try.prog 41 65 := ⟨by kernel_rfl⟩
instance : TOne Try.prog 44 := ⟨fun _ => by kernel_rfl⟩
instance : TSize Try.prog 44 1 := ⟨fun _ => by kernel_rfl⟩
instance : TSlc Try.prog 44 23 := ⟨by kernel_rfl⟩
instance : TOne Try.prog 45 := ⟨fun _ => by kernel_rfl⟩
instance : TSize Try.prog 45 1 := ⟨fun _ => by kernel_rfl⟩
instance : TSlc Try.prog 45 85 := ⟨by kernel_rfl⟩
instance : TOne Try.prog 48 := ⟨fun _ => by kernel_rfl⟩
instance : TSize Try.prog 48 1 := ⟨fun _ => by kernel_rfl⟩
instance : TSlc Try.prog 48 76 := ⟨by kernel_rfl⟩
instance : TOne Try.prog 50 := ⟨fun _ => by kernel_rfl⟩
instance : TSize Try.prog 50 1 := ⟨fun _ => by kernel_rfl⟩
instance : TSlc Try.prog 50 25 := ⟨by kernel_rfl⟩
instance : TOne Try.prog 62 := ⟨fun _ => by kernel_rfl⟩
instance : TSize Try.prog 62 1 := ⟨fun _ => by kernel_rfl⟩
instance : TSlc Try.prog 62 3 := ⟨by kernel_rfl⟩
instance : TAgg Try.prog 64 3 := ⟨fun _ => by kernel_rfl, fun _ => by kernel_rfl⟩
instance : TSize Try.prog 64 3 := ⟨fun _ => by kernel_rfl⟩
instance : TFld Try.prog 64 0 0 := ⟨fun _ _ => by kernel_rfl⟩
instance : TFld Try.prog 64 1 1 := ⟨fun _ _ => by kernel_rfl⟩
instance : TFld Try.prog 64 2 2 := ⟨fun _ _ => by kernel_rfl⟩
instance : TZero Try.prog 64 [.int .i64 0, .slice none 0 0, .int .i64 0] := ⟨fun _ => ⟨(.agg #[.int .i64 0, .slice none 0 0, .int .i64 0]), by kernel_rfl, rfl⟩⟩
theorem row_64 : (Try.prog.info? 64).map (fun i => (i.zero, i.size, i.bytes)) = some (some (.agg #[.int .i64 0, .slice none 0 0, .int .i64 0]), 3, 40) := by kernel_rfl
instance : TRow Try.prog 64 3 40 := ⟨by obtain ⟨i, h1, h2, h3, h4⟩ := info_parts row_64; exact ⟨i, _, h1, h2, h3, h4, rfl, by decide⟩⟩
instance : TMk Try.prog 64 [.int .i64 0, .slice none 0 0, .int .i64 0] 40 := ⟨by obtain ⟨i, h1, h2, h3, h4⟩ := info_parts row_64; exact ⟨i, _, h1, h2, h3, h4, rfl⟩⟩
instance : TAgg Try.prog 65 3 := ⟨fun _ => by kernel_rfl, fun _ => by kernel_rfl⟩
instance : TSize Try.prog 65 3 := ⟨fun _ => by kernel_rfl⟩
instance : TFld Try.prog 65 0 0 := ⟨fun _ _ => by kernel_rfl⟩
instance : TFld Try.prog 65 1 1 := ⟨fun _ _ => by kernel_rfl⟩
instance : TFld Try.prog 65 2 2 := ⟨fun _ _ => by kernel_rfl⟩
instance : TZero Try.prog 65 [.int .i64 0, .slice none 0 0, .int .i64 0] := ⟨fun _ => ⟨(.agg #[.int .i64 0, .slice none 0 0, .int .i64 0]), by kernel_rfl, rfl⟩⟩
theorem row_65 : (Try.prog.info? 65).map (fun i => (i.zero, i.size, i.bytes)) = some (some (.agg #[.int .i64 0, .slice none 0 0, .int .i64 0]), 3, 40) := by kernel_rfl
instance : TRow Try.prog 65 3 40 := ⟨by obtain ⟨i, h1, h2, h3, h4⟩ := info_parts row_65; exact ⟨i, _, h1, h2, h3, h4, rfl, by decide⟩⟩
instance : TMk Try.prog 65 [.int .i64 0, .slice none 0 0, .int .i64 0] 40 := ⟨by obtain ⟨i, h1, h2, h3, h4⟩ := info_parts row_65; exact ⟨i, _, h1, h2, h3, h4, rfl⟩⟩
instance : TOne Try.prog 69 := ⟨fun _ => by kernel_rfl⟩
instance : TSize Try.prog 69 1 := ⟨fun _ => by kernel_rfl⟩
instance : TAgg Try.prog 72 5 := ⟨fun _ => by kernel_rfl, fun _ => by kernel_rfl⟩
instance : TSize Try.prog 72 5 := ⟨fun _ => by kernel_rfl⟩
instance : TFld Try.prog 72 0 0 := ⟨fun _ _ => by kernel_rfl⟩
instance : TFld Try.prog 72 1 1 := ⟨fun _ _ => by kernel_rfl⟩
instance : TFld Try.prog 72 2 3 := ⟨fun _ _ => by kernel_rfl⟩
instance : TZero Try.prog 72 [.int .i64 0, .int .i64 0, .int .i64 0, .int .i64 0, .int .i64 0] := ⟨fun _ => ⟨(.agg #[.int .i64 0, .int .i64 0, .int .i64 0, .int .i64 0, .int .i64 0]), by kernel_rfl, rfl⟩⟩
instance : TAgg Try.prog 74 8 := ⟨fun _ => by kernel_rfl, fun _ => by kernel_rfl⟩
instance : TSize Try.prog 74 8 := ⟨fun _ => by kernel_rfl⟩
instance : TFld Try.prog 74 0 0 := ⟨fun _ _ => by kernel_rfl⟩
instance : TFld Try.prog 74 1 1 := ⟨fun _ _ => by kernel_rfl⟩
instance : TFld Try.prog 74 2 3 := ⟨fun _ _ => by kernel_rfl⟩
instance : TZero Try.prog 74 [.int .i64 0, .int .i64 0, .int .i64 0, .int .i64 0, .int .i64 0, .int .i64 0, .int .i64 0, .int .i64 0] := ⟨fun _ => ⟨(.agg #[.int .i64 0, .int .i64 0, .int .i64 0, .int .i64 0, .int .i64 0, .int .i64 0, .int .i64 0, .int .i64 0]), by kernel_rfl, rfl⟩⟩
instance : TAgg Try.prog 76 13 := ⟨fun _ => by kernel_rfl, fun _ => by kernel_rfl⟩
instance : TSize Try.prog 76 13 := ⟨fun _ => by kernel_rfl⟩
instance : TFld Try.prog 76 0 0 := ⟨fun _ _ => by kernel_rfl⟩
instance : TFld Try.prog 76 1 1 := ⟨fun _ _ => by kernel_rfl⟩
instance : TFld Try.prog 76 2 2 := ⟨fun _ _ => by kernel_rfl⟩
instance : TFld Try.prog 76 3 10 := ⟨fun _ _ => by kernel_rfl⟩
instance : TZero Try.prog 76 [.int .i64 0, .int .i64 0, .int .i64 0, .int .i64 0, .int .i64 0, .int .i64 0, .int .i64 0, .int .i64 0, .int .i64 0, .int .i64 0, .int .i64 0, .int .i64 0, .int .i64 0] := ⟨fun _ => ⟨(.agg #[.int .i64 0, .int .i64 0, .int .i64 0, .int .i64 0, .int .i64 0, .int .i64 0, .int .i64 0, .int .i64 0, .int .i64 0, .int .i64 0, .int .i64 0, .int .i64 0, .int .i64 0]), by kernel_rfl, rfl⟩⟩
theorem row_76 : (Try.prog.info? 76).map (fun i => (i.zero, i.size, i.bytes)) = some (some (.agg #[.int .i64 0, .int .i64 0, .int .i64 0, .int .i64 0, .int .i64 0, .int .i64 0, .int .i64 0, .int .i64 0, .int .i64 0, .int .i64 0, .int .i64 0, .int .i64 0, .int .i64 0]), 13, 104) := by kernel_rfl
instance : TRow Try.prog 76 13 104 := ⟨by obtain ⟨i, h1, h2, h3, h4⟩ := info_parts row_76; exact ⟨i, _, h1, h2, h3, h4, rfl, by decide⟩⟩
instance : TMk Try.prog 76 [.int .i64 0, .int .i64 0, .int .i64 0, .int .i64 0, .int .i64 0, .int .i64 0, .int .i64 0, .int .i64 0, .int .i64 0, .int .i64 0, .int .i64 0, .int .i64 0, .int .i64 0] 104 := ⟨by obtain ⟨i, h1, h2, h3, h4⟩ := info_parts row_76; exact ⟨i, _, h1, h2, h3, h4, rfl⟩⟩
instance : TAgg Try.prog 81 5 := ⟨fun _ => by kernel_rfl, fun _ => by kernel_rfl⟩
instance : TSize Try.prog 81 5 := ⟨fun _ => by kernel_rfl⟩
instance : TFld Try.prog 81 0 0 := ⟨fun _ _ => by kernel_rfl⟩
instance : TFld Try.prog 81 1 1 := ⟨fun _ _ => by kernel_rfl⟩
instance : TFld Try.prog 81 2 3 := ⟨fun _ _ => by kernel_rfl⟩
instance : TAgg Try.prog 83 8 := ⟨fun _ => by kernel_rfl, fun _ => by kernel_rfl⟩
instance : TSize Try.prog 83 8 := ⟨fun _ => by kernel_rfl⟩
instance : TFld Try.prog 83 0 0 := ⟨fun _ _ => by kernel_rfl⟩
instance : TFld Try.prog 83 1 1 := ⟨fun _ _ => by kernel_rfl⟩
instance : TFld Try.prog 83 2 3 := ⟨fun _ _ => by kernel_rfl⟩
instance : TAgg Try.prog 85 13 := ⟨fun _ => by kernel_rfl, fun _ => by kernel_rfl⟩
instance : TSize Try.prog 85 13 := ⟨fun _ => by kernel_rfl⟩
instance : TFld Try.prog 85 0 0 := ⟨fun _ _ => by kernel_rfl⟩
instance : TFld Try.prog 85 1 1 := ⟨fun _ _ => by kernel_rfl⟩
instance : TFld Try.prog 85 2 2 := ⟨fun _ _ => by kernel_rfl⟩
instance : TFld Try.prog 85 3 10 := ⟨fun _ _ => by kernel_rfl⟩
instance : TZero Try.prog 85 [.int .i64 0, .int .i64 0, .int .i64 0, .int .i64 0, .int .i64 0, .int .i64 0, .int .i64 0, .int .i64 0, .int .i64 0, .int .i64 0, .int .i64 0, .int .i64 0, .int .i64 0] := ⟨fun _ => ⟨(.agg #[.int .i64 0, .int .i64 0, .int .i64 0, .int .i64 0, .int .i64 0, .int .i64 0, .int .i64 0, .int .i64 0, .int .i64 0, .int .i64 0, .int .i64 0, .int .i64 0, .int .i64 0]), by kernel_rfl, rfl⟩⟩
theorem row_85 : (Try.prog.info? 85).map (fun i => (i.zero, i.size, i.bytes)) = some (some (.agg #[.int .i64 0, .int .i64 0, .int .i64 0, .int .i64 0, .int .i64 0, .int .i64 0, .int .i64 0, .int .i64 0, .int .i64 0, .int .i64 0, .int .i64 0, .int .i64 0, .int .i64 0]), 13, 104) := by kernel_rfl
instance : TRow Try.prog 85 13 104 := ⟨by obtain ⟨i, h1, h2, h3, h4⟩ := info_parts row_85; exact ⟨i, _, h1, h2, h3, h4, rfl, by decide⟩⟩
instance : TMk Try.prog 85 [.int .i64 0, .int .i64 0, .int .i64 0, .int .i64 0, .int .i64 0, .int .i64 0, .int .i64 0, .int .i64 0, .int .i64 0, .int .i64 0, .int .i64 0, .int .i64 0, .int .i64 0] 104 := ⟨by obtain ⟨i, h1, h2, h3, h4⟩ := info_parts row_85; exact ⟨i, _, h1, h2, h3, h4, rfl⟩⟩
instance : TOne Try.prog 92 := ⟨fun _ => by kernel_rfl⟩
instance : TSize Try.prog 92 1 := ⟨fun _ => by kernel_rfl⟩
instance : TInt Try.prog 92 .u8 := ⟨by kernel_rfl⟩
instance : TLay Try.prog 33 [.int .i64 0, .int .i64 0] #[(0, 1), (1, 1)] := ⟨fun _ => ⟨.agg #[.int .i64 0, .int .i64 0], by kernel_rfl, rfl⟩, ⟨Try.prog.fieldsOf 33, by kernel_rfl, fun _ => by kernel_rfl⟩⟩
instance : TLay Try.prog 72 [.int .i64 0, .int .i64 0, .int .i64 0, .int .i64 0, .int .i64 0] #[(0, 1), (1, 2), (3, 2)] := ⟨fun _ => ⟨.agg #[.int .i64 0, .int .i64 0, .int .i64 0, .int .i64 0, .int .i64 0], by kernel_rfl, rfl⟩, ⟨Try.prog.fieldsOf 72, by kernel_rfl, fun _ => by kernel_rfl⟩⟩
theorem eqi_23 (d : Nat) (a0 a1 a2 b0 b1 b2 : Int) (w : World) : (Op.equalIn (d + 2) 23 (.agg #[.int .i64 a0, .int .i64 a1, .int .i64 a2]) (.agg #[.int .i64 b0, .int .i64 b1, .int .i64 b2])).run Try.prog w = .ok (decide (a0 = b0) && (decide (a1 = b1) && (decide (a2 = b2) && true))) w := by
  rw [run_equalIn_struct w (d + 1) 23 _ _ (by kernel_rfl) (by kernel_rfl)]
  have h : (Try.prog.fieldsOf 23).toList.map (fun f => (f.name, f.type, f.offset)) = [("Clear", 3, 0), ("Size", 3, 1), ("Quota", 3, 2)] := by kernel_rfl
  generalize (Try.prog.fieldsOf 23).toList = fs at h
  have hl : fs.length = 3 := by simpa using congrArg List.length h
  match fs, hl, h with
  | [f0, f1, f2], _, h =>
    simp only [List.map_cons, List.map_nil, List.cons.injEq, Prod.mk.injEq, and_true] at h
    obtain ⟨⟨n0, t0, o0⟩, ⟨n1, t1, o1⟩, n2, t2, o2⟩ := h
    exact (eqF_int (t := 3) _ _ _ w _ _ _ _ (by rw [n0]; decide) t0 (by rw [o0]; rfl) (by rw [o0]; rfl) _ (eqF_int (t := 3) _ _ _ w _ _ _ _ (by rw [n1]; decide) t1 (by rw [o1]; rfl) (by rw [o1]; rfl) _ (eqF_int (t := 3) _ _ _ w _ _ _ _ (by rw [n2]; decide) t2 (by rw [o2]; rfl) (by rw [o2]; rfl) _ (eqF_nil _ _ _ _))))
instance : TEqI Try.prog 23 3 := ⟨by kernel_rfl, fun is js hi hj w => by
  match is, js, hi, hj with
  | [a0, a1, a2], [b0, b1, b2], _, _ =>
    have h := eqi_23 (10000 - 2) a0 a1 a2 b0 b1 b2 w
    refine h.trans ?_
    simp [Bool.decide_and, Bool.and_assoc]⟩
theorem eqi_25 (d : Nat) (a0 a1 a2 b0 b1 b2 : Int) (w : World) : (Op.equalIn (d + 2) 25 (.agg #[.int .i64 a0, .int .i64 a1, .int .i64 a2]) (.agg #[.int .i64 b0, .int .i64 b1, .int .i64 b2])).run Try.prog w = .ok (decide (a0 = b0) && (decide (a1 = b1) && (decide (a2 = b2) && true))) w := by
  rw [run_equalIn_struct w (d + 1) 25 _ _ (by kernel_rfl) (by kernel_rfl)]
  have h : (Try.prog.fieldsOf 25).toList.map (fun f => (f.name, f.type, f.offset)) = [("Clear", 3, 0), ("Size", 3, 1), ("Quota", 3, 2)] := by kernel_rfl
  generalize (Try.prog.fieldsOf 25).toList = fs at h
  have hl : fs.length = 3 := by simpa using congrArg List.length h
  match fs, hl, h with
  | [f0, f1, f2], _, h =>
    simp only [List.map_cons, List.map_nil, List.cons.injEq, Prod.mk.injEq, and_true] at h
    obtain ⟨⟨n0, t0, o0⟩, ⟨n1, t1, o1⟩, n2, t2, o2⟩ := h
    exact (eqF_int (t := 3) _ _ _ w _ _ _ _ (by rw [n0]; decide) t0 (by rw [o0]; rfl) (by rw [o0]; rfl) _ (eqF_int (t := 3) _ _ _ w _ _ _ _ (by rw [n1]; decide) t1 (by rw [o1]; rfl) (by rw [o1]; rfl) _ (eqF_int (t := 3) _ _ _ w _ _ _ _ (by rw [n2]; decide) t2 (by rw [o2]; rfl) (by rw [o2]; rfl) _ (eqF_nil _ _ _ _))))
instance : TEqI Try.prog 25 3 := ⟨by kernel_rfl, fun is js hi hj w => by
  match is, js, hi, hj with
  | [a0, a1, a2], [b0, b1, b2], _, _ =>
    have h := eqi_25 (10000 - 2) a0 a1 a2 b0 b1 b2 w
    refine h.trans ?_
    simp [Bool.decide_and, Bool.and_assoc]⟩
theorem eqi_29 (d : Nat) (a0 a1 b0 b1 : Int) (w : World) : (Op.equalIn (d + 2) 29 (.agg #[.int .i64 a0, .int .i64 a1]) (.agg #[.int .i64 b0, .int .i64 b1])).run Try.prog w = .ok (decide (a0 = b0) && (decide (a1 = b1) && true)) w := by
  rw [run_equalIn_struct w (d + 1) 29 _ _ (by kernel_rfl) (by kernel_rfl)]
  have h : (Try.prog.fieldsOf 29).toList.map (fun f => (f.name, f.type, f.offset)) = [("Label", 3, 0), ("Num", 3, 1)] := by kernel_rfl
  generalize (Try.prog.fieldsOf 29).toList = fs at h
  have hl : fs.length = 2 := by simpa using congrArg List.length h
  match fs, hl, h with
  | [f0, f1], _, h =>
    simp only [List.map_cons, List.map_nil, List.cons.injEq, Prod.mk.injEq, and_true] at h
    obtain ⟨⟨n0, t0, o0⟩, n1, t1, o1⟩ := h
    exact (eqF_int (t := 3) _ _ _ w _ _ _ _ (by rw [n0]; decide) t0 (by rw [o0]; rfl) (by rw [o0]; rfl) _ (eqF_int (t := 3) _ _ _ w _ _ _ _ (by rw [n1]; decide) t1 (by rw [o1]; rfl) (by rw [o1]; rfl) _ (eqF_nil _ _ _ _)))
instance : TEqI Try.prog 29 2 := ⟨by kernel_rfl, fun is js hi hj w => by
  match is, js, hi, hj with
  | [a0, a1], [b0, b1], _, _ =>
    have h := eqi_29 (10000 - 2) a0 a1 b0 b1 w
    refine h.trans ?_
    simp [Bool.decide_and, Bool.and_assoc]⟩
theorem eqi_33 (d : Nat) (a0 a1 b0 b1 : Int) (w : World) : (Op.equalIn (d + 2) 33 (.agg #[.int .i64 a0, .int .i64 a1]) (.agg #[.int .i64 b0, .int .i64 b1])).run Try.prog w = .ok (decide (a0 = b0) && (decide (a1 = b1) && true)) w := by
  rw [run_equalIn_struct w (d + 1) 33 _ _ (by kernel_rfl) (by kernel_rfl)]
  have h : (Try.prog.fieldsOf 33).toList.map (fun f => (f.name, f.type, f.offset)) = [("Label", 3, 0), ("Num", 3, 1)] := by kernel_rfl
  generalize (Try.prog.fieldsOf 33).toList = fs at h
  have hl : fs.length = 2 := by simpa using congrArg List.length h
  match fs, hl, h with
  | [f0, f1], _, h =>
    simp only [List.map_cons, List.map_nil, List.cons.injEq, Prod.mk.injEq, and_true] at h
    obtain ⟨⟨n0, t0, o0⟩, n1, t1, o1⟩ := h
    exact (eqF_int (t := 3) _ _ _ w _ _ _ _ (by rw [n0]; decide) t0 (by rw [o0]; rfl) (by rw [o0]; rfl) _ (eqF_int (t := 3) _ _ _ w _ _ _ _ (by rw [n1]; decide) t1 (by rw [o1]; rfl) (by rw [o1]; rfl) _ (eqF_nil _ _ _ _)))
instance : TEqI Try.prog 33 2 := ⟨by kernel_rfl, fun is js hi hj w => by
  match is, js, hi, hj with
  | [a0, a1], [b0, b1], _, _ =>
    have h := eqi_33 (10000 - 2) a0 a1 b0 b1 w
    refine h.trans ?_
    simp [Bool.decide_and, Bool.and_assoc]⟩
theorem eqi_31 (d : Nat) (a0 a1 a2 b0 b1 b2 : Int) (w : World) : (Op.equalIn (d + 3) 31 (.agg #[.int .i64 a0, .int .i64 a1, .int .i64 a2]) (.agg #[.int .i64 b0, .int .i64 b1, .int .i64 b2])).run Try.prog w = .ok (decide (a0 = b0) && ((decide (a1 = b1) && (decide (a2 = b2) && true)) && true)) w := by
  rw [run_equalIn_struct w (d + 2) 31 _ _ (by kernel_rfl) (by kernel_rfl)]
  have h : (Try.prog.fieldsOf 31).toList.map (fun f => (f.name, f.type, f.offset)) = [("Kind", 3, 0), ("Node", 29, 1)] := by kernel_rfl
  generalize (Try.prog.fieldsOf 31).toList = fs at h
  have hl : fs.length = 2 := by simpa using congrArg List.length h
  match fs, hl, h with
  | [f0, f1], _, h =>
    simp only [List.map_cons, List.map_nil, List.cons.injEq, Prod.mk.injEq, and_true] at h
    obtain ⟨⟨n0, t0, o0⟩, n1, t1, o1⟩ := h
    exact (eqF_int (t := 3) _ _ _ w _ _ _ _ (by rw [n0]; decide) t0 (by rw [o0]; rfl) (by rw [o0]; rfl) _ (eqF_agg (t := 29) _ _ _ w _ _ _ (by rw [n1]; decide) t1 (by rw [o1]; exact eqi_29 _ _ _ _ _ w) _ (eqF_nil _ _ _ _)))
instance : TEqI Try.prog 31 3 := ⟨by kernel_rfl, fun is js hi hj w => by
  match is, js, hi, hj with
  | [a0, a1, a2], [b0, b1, b2], _, _ =>
    have h := eqi_31 (10000 - 3) a0 a1 a2 b0 b1 b2 w
    refine h.trans ?_
    simp [Bool.decide_and, Bool.and_assoc]⟩
theorem eqi_35 (d : Nat) (a0 a1 a2 b0 b1 b2 : Int) (w : World) : (Op.equalIn (d + 3) 35 (.agg #[.int .i64 a0, .int .i64 a1, .int .i64 a2]) (.agg #[.int .i64 b0, .int .i64 b1, .int .i64 b2])).run Try.prog w = .ok (decide (a0 = b0) && ((decide (a1 = b1) && (decide (a2 = b2) && true)) && true)) w := by
  rw [run_equalIn_struct w (d + 2) 35 _ _ (by kernel_rfl) (by kernel_rfl)]
  have h : (Try.prog.fieldsOf 35).toList.map (fun f => (f.name, f.type, f.offset)) = [("Kind", 3, 0), ("Node", 33, 1)] := by kernel_rfl
  generalize (Try.prog.fieldsOf 35).toList = fs at h
  have hl : fs.length = 2 := by simpa using congrArg List.length h
  match fs, hl, h with
  | [f0, f1], _, h =>
    simp only [List.map_cons, List.map_nil, List.cons.injEq, Prod.mk.injEq, and_true] at h
    obtain ⟨⟨n0, t0, o0⟩, n1, t1, o1⟩ := h
    exact (eqF_int (t := 3) _ _ _ w _ _ _ _ (by rw [n0]; decide) t0 (by rw [o0]; rfl) (by rw [o0]; rfl) _ (eqF_agg (t := 33) _ _ _ w _ _ _ (by rw [n1]; decide) t1 (by rw [o1]; exact eqi_33 _ _ _ _ _ w) _ (eqF_nil _ _ _ _)))
instance : TEqI Try.prog 35 3 := ⟨by kernel_rfl, fun is js hi hj w => by
  match is, js, hi, hj with
  | [a0, a1, a2], [b0, b1, b2], _, _ =>
    have h := eqi_35 (10000 - 3) a0 a1 a2 b0 b1 b2 w
    refine h.trans ?_
    simp [Bool.decide_and, Bool.and_assoc]⟩
theorem eqi_72 (d : Nat) (a0 a1 a2 a3 a4 b0 b1 b2 b3 b4 : Int) (w : World) : (Op.equalIn (d + 3) 72 (.agg #[.int .i64 a0, .int .i64 a1, .int .i64 a2, .int .i64 a3, .int .i64 a4]) (.agg #[.int .i64 b0, .int .i64 b1, .int .i64 b2, .int .i64 b3, .int .i64 b4])).run Try.prog w = .ok (decide (a0 = b0) && ((decide (a1 = b1) && (decide (a2 = b2) && true)) && ((decide (a3 = b3) && (decide (a4 = b4) && true)) && true))) w := by
  rw [run_equalIn_struct w (d + 2) 72 _ _ (by kernel_rfl) (by kernel_rfl)]
  have h : (Try.prog.fieldsOf 72).toList.map (fun f => (f.name, f.type, f.offset)) = [("Label", 3, 0), ("A", 33, 1), ("B", 33, 3)] := by kernel_rfl
  generalize (Try.prog.fieldsOf 72).toList = fs at h
  have hl : fs.length = 3 := by simpa using congrArg List.length h
  match fs, hl, h with
  | [f0, f1, f2], _, h =>
    simp only [List.map_cons, List.map_nil, List.cons.injEq, Prod.mk.injEq, and_true] at h
    obtain ⟨⟨n0, t0, o0⟩, ⟨n1, t1, o1⟩, n2, t2, o2⟩ := h
    exact (eqF_int (t := 3) _ _ _ w _ _ _ _ (by rw [n0]; decide) t0 (by rw [o0]; rfl) (by rw [o0]; rfl) _ (eqF_agg (t := 33) _ _ _ w _ _ _ (by rw [n1]; decide) t1 (by rw [o1]; exact eqi_33 _ _ _ _ _ w) _ (eqF_agg (t := 33) _ _ _ w _ _ _ (by rw [n2]; decide) t2 (by rw [o2]; exact eqi_33 _ _ _ _ _ w) _ (eqF_nil _ _ _ _))))
instance : TEqI Try.prog 72 5 := ⟨by kernel_rfl, fun is js hi hj w => by
  match is, js, hi, hj with
  | [a0, a1, a2, a3, a4], [b0, b1, b2, b3, b4], _, _ =>
    have h := eqi_72 (10000 - 3) a0 a1 a2 a3 a4 b0 b1 b2 b3 b4 w
    refine h.trans ?_
    simp [Bool.decide_and, Bool.and_assoc]⟩
theorem eqi_81 (d : Nat) (a0 a1 a2 a3 a4 b0 b1 b2 b3 b4 : Int) (w : World) : (Op.equalIn (d + 3) 81 (.agg #[.int .i64 a0, .int .i64 a1, .int .i64 a2, .int .i64 a3, .int .i64 a4]) (.agg #[.int .i64 b0, .int .i64 b1, .int .i64 b2, .int .i64 b3, .int .i64 b4])).run Try.prog w = .ok (decide (a0 = b0) && ((decide (a1 = b1) && (decide (a2 = b2) && true)) && ((decide (a3 = b3) && (decide (a4 = b4) && true)) && true))) w := by
  rw [run_equalIn_struct w (d + 2) 81 _ _ (by kernel_rfl) (by kernel_rfl)]
  have h : (Try.prog.fieldsOf 81).toList.map (fun f => (f.name, f.type, f.offset)) = [("Label", 3, 0), ("A", 29, 1), ("B", 29, 3)] := by kernel_rfl
  generalize (Try.prog.fieldsOf 81).toList = fs at h
  have hl : fs.length = 3 := by simpa using congrArg List.length h
  match fs, hl, h with
  | [f0, f1, f2], _, h =>
    simp only [List.map_cons, List.map_nil, List.cons.injEq, Prod.mk.injEq, and_true] at h
    obtain ⟨⟨n0, t0, o0⟩, ⟨n1, t1, o1⟩, n2, t2, o2⟩ := h
    exact (eqF_int (t := 3) _ _ _ w _ _ _ _ (by rw [n0]; decide) t0 (by rw [o0]; rfl) (by rw [o0]; rfl) _ (eqF_agg (t := 29) _ _ _ w _ _ _ (by rw [n1]; decide) t1 (by rw [o1]; exact eqi_29 _ _ _ _ _ w) _ (eqF_agg (t := 29) _ _ _ w _ _ _ (by rw [n2]; decide) t2 (by rw [o2]; exact eqi_29 _ _ _ _ _ w) _ (eqF_nil _ _ _ _))))
instance : TEqI Try.prog 81 5 := ⟨by kernel_rfl, fun is js hi hj w => by
  match is, js, hi, hj with
  | [a0, a1, a2, a3, a4], [b0, b1, b2, b3, b4], _, _ =>
    have h := eqi_81 (10000 - 3) a0 a1 a2 a3 a4 b0 b1 b2 b3 b4 w
    refine h.trans ?_
    simp [Bool.decide_and, Bool.and_assoc]⟩
theorem eqi_74 (d : Nat) (a0 a1 a2 a3 a4 a5 a6 a7 b0 b1 b2 b3 b4 b5 b6 b7 : Int) (w : World) : (Op.equalIn (d + 4) 74 (.agg #[.int .i64 a0, .int .i64 a1, .int .i64 a2, .int .i64 a3, .int .i64 a4, .int .i64 a5, .int .i64 a6, .int .i64 a7]) (.agg #[.int .i64 b0, .int .i64 b1, .int .i64 b2, .int .i64 b3, .int .i64 b4, .int .i64 b5, .int .i64 b6, .int .i64 b7])).run Try.prog w = .ok (decide (a0 = b0) && ((decide (a1 = b1) && (decide (a2 = b2) && true)) && ((decide (a3 = b3) && ((decide (a4 = b4) && (decide (a5 = b5) && true)) && ((decide (a6 = b6) && (decide (a7 = b7) && true)) && true))) && true))) w := by
  rw [run_equalIn_struct w (d + 3) 74 _ _ (by kernel_rfl) (by kernel_rfl)]
  have h : (Try.prog.fieldsOf 74).toList.map (fun f => (f.name, f.type, f.offset)) = [("Kind", 3, 0), ("Node", 33, 1), ("Edge", 72, 3)] := by kernel_rfl
  generalize (Try.prog.fieldsOf 74).toList = fs at h
  have hl : fs.length = 3 := by simpa using congrArg List.length h
  match fs, hl, h with
  | [f0, f1, f2], _, h =>
    simp only [List.map_cons, List.map_nil, List.cons.injEq, Prod.mk.injEq, and_true] at h
    obtain ⟨⟨n0, t0, o0⟩, ⟨n1, t1, o1⟩, n2, t2, o2⟩ := h
    exact (eqF_int (t := 3) _ _ _ w _ _ _ _ (by rw [n0]; decide) t0 (by rw [o0]; rfl) (by rw [o0]; rfl) _ (eqF_agg (t := 33) _ _ _ w _ _ _ (by rw [n1]; decide) t1 (by rw [o1]; exact eqi_33 _ _ _ _ _ w) _ (eqF_agg (t := 72) _ _ _ w _ _ _ (by rw [n2]; decide) t2 (by rw [o2]; exact eqi_72 _ _ _ _ _ _ _ _ _ _ _ w) _ (eqF_nil _ _ _ _))))
instance : TEqI Try.prog 74 8 := ⟨by kernel_rfl, fun is js hi hj w => by
  match is, js, hi, hj with
  | [a0, a1, a2, a3, a4, a5, a6, a7], [b0, b1, b2, b3, b4, b5, b6, b7], _, _ =>
    have h := eqi_74 (10000 - 4) a0 a1 a2 a3 a4 a5 a6 a7 b0 b1 b2 b3 b4 b5 b6 b7 w
    refine h.trans ?_
    simp [Bool.decide_and, Bool.and_assoc]⟩
theorem eqi_83 (d : Nat) (a0 a1 a2 a3 a4 a5 a6 a7 b0 b1 b2 b3 b4 b5 b6 b7 : Int) (w : World) : (Op.equalIn (d + 4) 83 (.agg #[.int .i64 a0, .int .i64 a1, .int .i64 a2, .int .i64 a3, .int .i64 a4, .int .i64 a5, .int .i64 a6, .int .i64 a7]) (.agg #[.int .i64 b0, .int .i64 b1, .int .i64 b2, .int .i64 b3, .int .i64 b4, .int .i64 b5, .int .i64 b6, .int .i64 b7])).run Try.prog w = .ok (decide (a0 = b0) && ((decide (a1 = b1) && (decide (a2 = b2) && true)) && ((decide (a3 = b3) && ((decide (a4 = b4) && (decide (a5 = b5) && true)) && ((decide (a6 = b6) && (decide (a7 = b7) && true)) && true))) && true))) w := by
  rw [run_equalIn_struct w (d + 3) 83 _ _ (by kernel_rfl) (by kernel_rfl)]
  have h : (Try.prog.fieldsOf 83).toList.map (fun f => (f.name, f.type, f.offset)) = [("Kind", 3, 0), ("Node", 29, 1), ("Edge", 81, 3)] := by kernel_rfl
  generalize (Try.prog.fieldsOf 83).toList = fs at h
  have hl : fs.length = 3 := by simpa using congrArg List.length h
  match fs, hl, h with
  | [f0, f1, f2], _, h =>
    simp only [List.map_cons, List.map_nil, List.cons.injEq, Prod.mk.injEq, and_true] at h
    obtain ⟨⟨n0, t0, o0⟩, ⟨n1, t1, o1⟩, n2, t2, o2⟩ := h
    exact (eqF_int (t := 3) _ _ _ w _ _ _ _ (by rw [n0]; decide) t0 (by rw [o0]; rfl) (by rw [o0]; rfl) _ (eqF_agg (t := 29) _ _ _ w _ _ _ (by rw [n1]; decide) t1 (by rw [o1]; exact eqi_29 _ _ _ _ _ w) _ (eqF_agg (t := 81) _ _ _ w _ _ _ (by rw [n2]; decide) t2 (by rw [o2]; exact eqi_81 _ _ _ _ _ _ _ _ _ _ _ w) _ (eqF_nil _ _ _ _))))
instance : TEqI Try.prog 83 8 := ⟨by kernel_rfl, fun is js hi hj w => by
  match is, js, hi, hj with
  | [a0, a1, a2, a3, a4, a5, a6, a7], [b0, b1, b2, b3, b4, b5, b6, b7], _, _ =>
    have h := eqi_83 (10000 - 4) a0 a1 a2 a3 a4 a5 a6 a7 b0 b1 b2 b3 b4 b5 b6 b7 w
    refine h.trans ?_
    simp [Bool.decide_and, Bool.and_assoc]⟩
theorem eqi_76 (d : Nat) (a0 a1 a2 a3 a4 a5 a6 a7 a8 a9 a10 a11 a12 b0 b1 b2 b3 b4 b5 b6 b7 b8 b9 b10 b11 b12 : Int) (w : World) : (Op.equalIn (d + 5) 76 (.agg #[.int .i64 a0, .int .i64 a1, .int .i64 a2, .int .i64 a3, .int .i64 a4, .int .i64 a5, .int .i64 a6, .int .i64 a7, .int .i64 a8, .int .i64 a9, .int .i64 a10, .int .i64 a11, .int .i64 a12]) (.agg #[.int .i64 b0, .int .i64 b1, .int .i64 b2, .int .i64 b3, .int .i64 b4, .int .i64 b5, .int .i64 b6, .int .i64 b7, .int .i64 b8, .int .i64 b9, .int .i64 b10, .int .i64 b11, .int .i64 b12])).run Try.prog w = .ok (decide (a0 = b0) && (decide (a1 = b1) && ((decide (a2 = b2) && ((decide (a3 = b3) && (decide (a4 = b4) && true)) && ((decide (a5 = b5) && ((decide (a6 = b6) && (decide (a7 = b7) && true)) && ((decide (a8 = b8) && (decide (a9 = b9) && true)) && true))) && true))) && ((decide (a10 = b10) && ((decide (a11 = b11) && (decide (a12 = b12) && true)) && true)) && true)))) w := by
  rw [run_equalIn_struct w (d + 4) 76 _ _ (by kernel_rfl) (by kernel_rfl)]
  have h : (Try.prog.fieldsOf 76).toList.map (fun f => (f.name, f.type, f.offset)) = [("Kind", 3, 0), ("Who", 3, 1), ("Op", 74, 2), ("Query", 35, 10)] := by kernel_rfl
  generalize (Try.prog.fieldsOf 76).toList = fs at h
  have hl : fs.length = 4 := by simpa using congrArg List.length h
  match fs, hl, h with
  | [f0, f1, f2, f3], _, h =>
    simp only [List.map_cons, List.map_nil, List.cons.injEq, Prod.mk.injEq, and_true] at h
    obtain ⟨⟨n0, t0, o0⟩, ⟨n1, t1, o1⟩, ⟨n2, t2, o2⟩, n3, t3, o3⟩ := h
    exact (eqF_int (t := 3) _ _ _ w _ _ _ _ (by rw [n0]; decide) t0 (by rw [o0]; rfl) (by rw [o0]; rfl) _ (eqF_int (t := 3) _ _ _ w _ _ _ _ (by rw [n1]; decide) t1 (by rw [o1]; rfl) (by rw [o1]; rfl) _ (eqF_agg (t := 74) _ _ _ w _ _ _ (by rw [n2]; decide) t2 (by rw [o2]; exact eqi_74 _ _ _ _ _ _ _ _ _ _ _ _ _ _ _ _ _ w) _ (eqF_agg (t := 35) _ _ _ w _ _ _ (by rw [n3]; decide) t3 (by rw [o3]; exact eqi_35 _ _ _ _ _ _ _ w) _ (eqF_nil _ _ _ _)))))
instance : TEqI Try.prog 76 13 := ⟨by kernel_rfl, fun is js hi hj w => by
  match is, js, hi, hj with
  | [a0, a1, a2, a3, a4, a5, a6, a7, a8, a9, a10, a11, a12], [b0, b1, b2, b3, b4, b5, b6, b7, b8, b9, b10, b11, b12], _, _ =>
    have h := eqi_76 (10000 - 5) a0 a1 a2 a3 a4 a5 a6 a7 a8 a9 a10 a11 a12 b0 b1 b2 b3 b4 b5 b6 b7 b8 b9 b10 b11 b12 w
    refine h.trans ?_
    simp [Bool.decide_and, Bool.and_assoc]⟩
theorem eqi_85 (d : Nat) (a0 a1 a2 a3 a4 a5 a6 a7 a8 a9 a10 a11 a12 b0 b1 b2 b3 b4 b5 b6 b7 b8 b9 b10 b11 b12 : Int) (w : World) : (Op.equalIn (d + 5) 85 (.agg #[.int .i64 a0, .int .i64 a1, .int .i64 a2, .int .i64 a3, .int .i64 a4, .int .i64 a5, .int .i64 a6, .int .i64 a7, .int .i64 a8, .int .i64 a9, .int .i64 a10, .int .i64 a11, .int .i64 a12]) (.agg #[.int .i64 b0, .int .i64 b1, .int .i64 b2, .int .i64 b3, .int .i64 b4, .int .i64 b5, .int .i64 b6, .int .i64 b7, .int .i64 b8, .int .i64 b9, .int .i64 b10, .int .i64 b11, .int .i64 b12])).run Try.prog w = .ok (decide (a0 = b0) && (decide (a1 = b1) && ((decide (a2 = b2) && ((decide (a3 = b3) && (decide (a4 = b4) && true)) && ((decide (a5 = b5) && ((decide (a6 = b6) && (decide (a7 = b7) && true)) && ((decide (a8 = b8) && (decide (a9 = b9) && true)) && true))) && true))) && ((decide (a10 = b10) && ((decide (a11 = b11) && (decide (a12 = b12) && true)) && true)) && true)))) w := by
  rw [run_equalIn_struct w (d + 4) 85 _ _ (by kernel_rfl) (by kernel_rfl)]
  have h : (Try.prog.fieldsOf 85).toList.map (fun f => (f.name, f.type, f.offset)) = [("Kind", 3, 0), ("Who", 3, 1), ("Op", 83, 2), ("Query", 31, 10)] := by kernel_rfl
  generalize (Try.prog.fieldsOf 85).toList = fs at h
  have hl : fs.length = 4 := by simpa using congrArg List.length h
  match fs, hl, h with
  | [f0, f1, f2, f3], _, h =>
    simp only [List.map_cons, List.map_nil, List.cons.injEq, Prod.mk.injEq, and_true] at h
    obtain ⟨⟨n0, t0, o0⟩, ⟨n1, t1, o1⟩, ⟨n2, t2, o2⟩, n3, t3, o3⟩ := h
    exact (eqF_int (t := 3) _ _ _ w _ _ _ _ (by rw [n0]; decide) t0 (by rw [o0]; rfl) (by rw [o0]; rfl) _ (eqF_int (t := 3) _ _ _ w _ _ _ _ (by rw [n1]; decide) t1 (by rw [o1]; rfl) (by rw [o1]; rfl) _ (eqF_agg (t := 83) _ _ _ w _ _ _ (by rw [n2]; decide) t2 (by rw [o2]; exact eqi_83 _ _ _ _ _ _ _ _ _ _ _ _ _ _ _ _ _ w) _ (eqF_agg (t := 31) _ _ _ w _ _ _ (by rw [n3]; decide) t3 (by rw [o3]; exact eqi_31 _ _ _ _ _ _ _ w) _ (eqF_nil _ _ _ _)))))
instance : TEqI Try.prog 85 13 := ⟨by kernel_rfl, fun is js hi hj w => by
  match is, js, hi, hj with
  | [a0, a1, a2, a3, a4, a5, a6, a7, a8, a9, a10, a11, a12], [b0, b1, b2, b3, b4, b5, b6, b7, b8, b9, b10, b11, b12], _, _ =>
    have h := eqi_85 (10000 - 5) a0 a1 a2 a3 a4 a5 a6 a7 a8 a9 a10 a11 a12 b0 b1 b2 b3 b4 b5 b6 b7 b8 b9 b10 b11 b12 w
    refine h.trans ?_
    simp [Bool.decide_and, Bool.and_assoc]⟩
instance : FnOk Try.prog 2 := ⟨⟨_, Try.func2, rfl, beq_eq_false_iff_ne.1 (by kernel_rfl)⟩⟩
instance : FnOk Try.prog 3 := ⟨⟨_, Try.func3, rfl, beq_eq_false_iff_ne.1 (by kernel_rfl)⟩⟩
instance : FnOk Try.prog 4 := ⟨⟨_, Try.func4, rfl, beq_eq_false_iff_ne.1 (by kernel_rfl)⟩⟩
instance : FnOk Try.prog 5 := ⟨⟨_, Try.func5, rfl, beq_eq_false_iff_ne.1 (by kernel_rfl)⟩⟩
instance : FnOk Try.prog 6 := ⟨⟨_, Try.func6, rfl, beq_eq_false_iff_ne.1 (by kernel_rfl)⟩⟩
instance : FnOk Try.prog 7 := ⟨⟨_, Try.func7, rfl, beq_eq_false_iff_ne.1 (by kernel_rfl)⟩⟩
instance : FnOk Try.prog 8 := ⟨⟨_, Try.func8, rfl, beq_eq_false_iff_ne.1 (by kernel_rfl)⟩⟩
instance : FnOk Try.prog 9 := ⟨⟨_, Try.func9, rfl, beq_eq_false_iff_ne.1 (by kernel_rfl)⟩⟩
instance : FnOk Try.prog 10 := ⟨⟨_, Try.func10, rfl, beq_eq_false_iff_ne.1 (by kernel_rfl)⟩⟩
instance : FnOk Try.prog 11 := ⟨⟨_, Try.func11, rfl, beq_eq_false_iff_ne.1 (by kernel_rfl)⟩⟩
instance : FnOk Try.prog 12 := ⟨⟨_, Try.func12, rfl, beq_eq_false_iff_ne.1 (by kernel_rfl)⟩⟩
instance : FnOk Try.prog 13 := ⟨⟨_, Try.func13, rfl, beq_eq_false_iff_ne.1 (by kernel_rfl)⟩⟩
instance : FnOk Try.prog 14 := ⟨⟨_, Try.func14, rfl, beq_eq_false_iff_ne.1 (by kernel_rfl)⟩⟩
instance : FnOk Try.prog 15 := ⟨⟨_, Try.func15, rfl, beq_eq_false_iff_ne.1 (by kernel_rfl)⟩⟩
instance : FnOk Try.prog 16 := ⟨⟨_, Try.func16, rfl, beq_eq_false_iff_ne.1 (by kernel_rfl)⟩⟩
instance : FnOk Try.prog 17 := ⟨⟨_, Try.func17, rfl, beq_eq_false_iff_ne.1 (by kernel_rfl)⟩⟩
instance : FnOk Try.prog 18 := ⟨⟨_, Try.func18, rfl, beq_eq_false_iff_ne.1 (by kernel_rfl)⟩⟩
instance : FnOk Try.prog 19 := ⟨⟨_, Try.func19, rfl, beq_eq_false_iff_ne.1 (by kernel_rfl)⟩⟩
instance : FnOk Try.prog 20 := ⟨⟨_, Try.func20, rfl, beq_eq_false_iff_ne.1 (by kernel_rfl)⟩⟩
instance : FnOk Try.prog 21 := ⟨⟨_, Try.func21, rfl, beq_eq_false_iff_ne.1 (by kernel_rfl)⟩⟩
instance : FnOk Try.prog 22 := ⟨⟨_, Try.func22, rfl, beq_eq_false_iff_ne.1 (by kernel_rfl)⟩⟩
instance : FnOk Try.prog 23 := ⟨⟨_, Try.func23, rfl, beq_eq_false_iff_ne.1 (by kernel_rfl)⟩⟩
instance : FnOk Try.prog 24 := ⟨⟨_, Try.func24, rfl, beq_eq_false_iff_ne.1 (by kernel_rfl)⟩⟩
instance : FnOk Try.prog 25 := ⟨⟨_, Try.func25, rfl, beq_eq_false_iff_ne.1 (by kernel_rfl)⟩⟩
instance : FnOk Try.prog 26 := ⟨⟨_, Try.func26, rfl, beq_eq_false_iff_ne.1 (by kernel_rfl)⟩⟩
instance : FnOk Try.prog 27 := ⟨⟨_, Try.func27, rfl, beq_eq_false_iff_ne.1 (by kernel_rfl)⟩⟩
instance : FnOk Try.prog 28 := ⟨⟨_, Try.func28, rfl, beq_eq_false_iff_ne.1 (by kernel_rfl)⟩⟩
instance : FnOk Try.prog 29 := ⟨⟨_, Try.func29, rfl, beq_eq_false_iff_ne.1 (by kernel_rfl)⟩⟩
instance : FnOk Try.prog 30 := ⟨⟨_, Try.func30, rfl, beq_eq_false_iff_ne.1 (by kernel_rfl)⟩⟩
instance : FnOk Try.prog 31 := ⟨⟨_, Try.func31, rfl, beq_eq_false_iff_ne.1 (by kernel_rfl)⟩⟩
instance : FnOk Try.prog 32 := ⟨⟨_, Try.func32, rfl, beq_eq_false_iff_ne.1 (by kernel_rfl)⟩⟩
instance : FnOk Try.prog 33 := ⟨⟨_, Try.func33, rfl, beq_eq_false_iff_ne.1 (by kernel_rfl)⟩⟩
instance : FnOk Try.prog 34 := ⟨⟨_, Try.func34, rfl, beq_eq_false_iff_ne.1 (by kernel_rfl)⟩⟩
instance : FnOk Try.prog 35 := ⟨⟨_, Try.func35, rfl, beq_eq_false_iff_ne.1 (by kernel_rfl)⟩⟩
instance : FnOk Try.prog 36 := ⟨⟨_, Try.func36, rfl, beq_eq_false_iff_ne.1 (by kernel_rfl)⟩⟩
instance : FnOk Try.prog 37 := ⟨⟨_, Try.func37, rfl, beq_eq_false_iff_ne.1 (by kernel_rfl)⟩⟩
instance : FnOk Try.prog 38 := ⟨⟨_, Try.func38, rfl, beq_eq_false_iff_ne.1 (by kernel_rfl)⟩⟩
instance : FnOk Try.prog 39 := ⟨⟨_, Try.func39, rfl, beq_eq_false_iff_ne.1 (by kernel_rfl)⟩⟩
instance : FnOk Try.prog 40 := ⟨⟨_, Try.func40, rfl, beq_eq_false_iff_ne.1 (by kernel_rfl)⟩⟩
instance : FnOk Try.prog 41 := ⟨⟨_, Try.func41, rfl, beq_eq_false_iff_ne.1 (by kernel_rfl)⟩⟩
instance : FnOk Try.prog 42 := ⟨⟨_, Try.func42, rfl, beq_eq_false_iff_ne.1 (by kernel_rfl)⟩⟩
instance : FnOk Try.prog 43 := ⟨⟨_, Try.func43, rfl, beq_eq_false_iff_ne.1 (by kernel_rfl)⟩⟩
instance : FnOk Try.prog 44 := ⟨⟨_, Try.func44, rfl, beq_eq_false_iff_ne.1 (by kernel_rfl)⟩⟩
instance : FnOk Try.prog 45 := ⟨⟨_, Try.func45, rfl, beq_eq_false_iff_ne.1 (by kernel_rfl)⟩⟩
instance : FnOk Try.prog 46 := ⟨⟨_, Try.func46, rfl, beq_eq_false_iff_ne.1 (by kernel_rfl)⟩⟩
instance : FnOk Try.prog 47 := ⟨⟨_, Try.func47, rfl, beq_eq_false_iff_ne.1 (by kernel_rfl)⟩⟩
instance : FnOk Try.prog 48 := ⟨⟨_, Try.func48, rfl, beq_eq_false_iff_ne.1 (by kernel_rfl)⟩⟩
instance : FnOk Try.prog 49 := ⟨⟨_, Try.func49, rfl, beq_eq_false_iff_ne.1 (by kernel_rfl)⟩⟩
instance : FnOk Try.prog 50 := ⟨⟨_, Try.func50, rfl, beq_eq_false_iff_ne.1 (by kernel_rfl)⟩⟩
instance : FnOk Try.prog 51 := ⟨⟨_, Try.func51, rfl, beq_eq_false_iff_ne.1 (by kernel_rfl)⟩⟩
instance : FnOk Try.prog 52 := ⟨⟨_, Try.func52, rfl, beq_eq_false_iff_ne.1 (by kernel_rfl)⟩⟩
instance : FnOk Try.prog 53 := ⟨⟨_, Try.func53, rfl, beq_eq_false_iff_ne.1 (by kernel_rfl)⟩⟩
instance : FnOk Try.prog 54 := ⟨⟨_, Try.func54, rfl, beq_eq_false_iff_ne.1 (by kernel_rfl)⟩⟩
instance : FnOk Try.prog 55 := ⟨⟨_, Try.func55, rfl, beq_eq_false_iff_ne.1 (by kernel_rfl)⟩⟩
instance : FnOk Try.prog 56 := ⟨⟨_, Try.func56, rfl, beq_eq_false_iff_ne.1 (by kernel_rfl)⟩⟩
instance : FnOk Try.prog 57 := ⟨⟨_, Try.func57, rfl, beq_eq_false_iff_ne.1 (by kernel_rfl)⟩⟩
instance : FnOk Try.prog 58 := ⟨⟨_, Try.func58, rfl, beq_eq_false_iff_ne.1 (by kernel_rfl)⟩⟩
instance : FnOk Try.prog 59 := ⟨⟨_, Try.func59, rfl, beq_eq_false_iff_ne.1 (by kernel_rfl)⟩⟩
instance : FnOk Try.prog 60 := ⟨⟨_, Try.func60, rfl, beq_eq_false_iff_ne.1 (by kernel_rfl)⟩⟩
instance : FnOk Try.prog 61 := ⟨⟨_, Try.func61, rfl, beq_eq_false_iff_ne.1 (by kernel_rfl)⟩⟩
instance : FnOk Try.prog 62 := ⟨⟨_, Try.func62, rfl, beq_eq_false_iff_ne.1 (by kernel_rfl)⟩⟩
instance : FnOk Try.prog 63 := ⟨⟨_, Try.func63, rfl, beq_eq_false_iff_ne.1 (by kernel_rfl)⟩⟩
instance : FnOk Try.prog 64 := ⟨⟨_, Try.func64, rfl, beq_eq_false_iff_ne.1 (by kernel_rfl)⟩⟩
instance : FnOk Try.prog 65 := ⟨⟨_, Try.func65, rfl, beq_eq_false_iff_ne.1 (by kernel_rfl)⟩⟩
instance : FnOk Try.prog 66 := ⟨⟨_, Try.func66, rfl, beq_eq_false_iff_ne.1 (by kernel_rfl)⟩⟩
end E
end Go.Proofs.Ytbplkdibjjcomaa
