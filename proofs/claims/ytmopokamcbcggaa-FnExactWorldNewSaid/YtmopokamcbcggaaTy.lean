/- Facts on the types of this program, each by its table (written by a program of this repo: gen_ty.py). -/
import Derived.Test.YtmopokamcbcggaaProg
import Derived.Test.YtmopokamcbcggaaEngM
namespace Go.Proofs.Ytmopokamcbcggaa
namespace E
open Go Go.RowKit
set_option linter.unusedSimpArgs false
set_option linter.unusedVariables false
theorem mixed : Try.prog.follows .mixedOrders = true := by kernel_rfl
instance : TOne Try.prog 3 := ⟨fun _ => by kernel_rfl⟩
instance : TSize Try.prog 3 1 := ⟨fun _ => by kernel_rfl⟩
instance : TInt Try.prog 3 .i64 := ⟨by kernel_rfl⟩
instance : TZero Try.prog 3 [.int .i64 0] := ⟨fun _ => ⟨(.int .i64 0), by kernel_rfl, rfl⟩⟩
theorem row_3 : (Try.prog.info? 3).map (fun i => (i.zero, i.size, i.bytes)) = some (some (.int .i64 0), 1, 8) := by kernel_rfl
instance : TRow Try.prog 3 1 8 := ⟨by obtain ⟨i, h1, h2, h3, h4⟩ := info_parts row_3; exact ⟨i, _, h1, h2, h3, h4, rfl, by decide⟩⟩
instance : TMk Try.prog 3 [.int .i64 0] 8 := ⟨by obtain ⟨i, h1, h2, h3, h4⟩ := info_parts row_3; exact ⟨i, _, h1, h2, h3, h4, rfl⟩⟩
instance : TOne Try.prog 4 := ⟨fun _ => by kernel_rfl⟩
instance : TSize Try.prog 4 1 := ⟨fun _ => by kernel_rfl⟩
instance : TBool Try.prog 4 := ⟨by kernel_rfl⟩
instance : TZero Try.prog 4 [.bool false] := ⟨fun _ => ⟨(.bool false), by kernel_rfl, rfl⟩⟩
theorem row_4 : (Try.prog.info? 4).map (fun i => (i.zero, i.size, i.bytes)) = some (some (.bool false), 1, 1) := by kernel_rfl
instance : TRow Try.prog 4 1 1 := ⟨by obtain ⟨i, h1, h2, h3, h4⟩ := info_parts row_4; exact ⟨i, _, h1, h2, h3, h4, rfl, by decide⟩⟩
instance : TMk Try.prog 4 [.bool false] 1 := ⟨by obtain ⟨i, h1, h2, h3, h4⟩ := info_parts row_4; exact ⟨i, _, h1, h2, h3, h4, rfl⟩⟩
instance : TOne Try.prog 5 := ⟨fun _ => by kernel_rfl⟩
instance : TSize Try.prog 5 1 := ⟨fun _ => by kernel_rfl⟩
instance : TInt Try.prog 5 .u8 := ⟨by kernel_rfl⟩
instance : TZero Try.prog 5 [.int .u8 0] := ⟨fun _ => ⟨(.int .u8 0), by kernel_rfl, rfl⟩⟩
theorem row_5 : (Try.prog.info? 5).map (fun i => (i.zero, i.size, i.bytes)) = some (some (.int .u8 0), 1, 1) := by kernel_rfl
instance : TRow Try.prog 5 1 1 := ⟨by obtain ⟨i, h1, h2, h3, h4⟩ := info_parts row_5; exact ⟨i, _, h1, h2, h3, h4, rfl, by decide⟩⟩
instance : TMk Try.prog 5 [.int .u8 0] 1 := ⟨by obtain ⟨i, h1, h2, h3, h4⟩ := info_parts row_5; exact ⟨i, _, h1, h2, h3, h4, rfl⟩⟩
instance : TOne Try.prog 9 := ⟨fun _ => by kernel_rfl⟩
instance : TSize Try.prog 9 1 := ⟨fun _ => by kernel_rfl⟩
instance : TStr Try.prog 9 := ⟨by kernel_rfl⟩
instance : TOne Try.prog 22 := ⟨fun _ => by kernel_rfl⟩
instance : TSize Try.prog 22 1 := ⟨fun _ => by kernel_rfl⟩
instance : TSlc Try.prog 22 105 := ⟨by kernel_rfl⟩
instance : TOne Try.prog 23 := ⟨fun _ => by kernel_rfl⟩
instance : TSize Try.prog 23 1 := ⟨fun _ => by kernel_rfl⟩
instance : TSlc Try.prog 23 75 := ⟨by kernel_rfl⟩
instance : TOne Try.prog 24 := ⟨fun _ => by kernel_rfl⟩
instance : TSize Try.prog 24 1 := ⟨fun _ => by kernel_rfl⟩
instance : TSlc Try.prog 24 164 := ⟨by kernel_rfl⟩
instance : TAgg Try.prog 26 2 := ⟨fun _ => by kernel_rfl, fun _ => by kernel_rfl⟩
instance : TSize Try.prog 26 2 := ⟨fun _ => by kernel_rfl⟩
instance : TFld Try.prog 26 0 0 := ⟨fun _ _ => by kernel_rfl⟩
instance : TFld Try.prog 26 1 1 := ⟨fun _ _ => by kernel_rfl⟩
instance : TOne Try.prog 27 := ⟨fun _ => by kernel_rfl⟩
instance : TSize Try.prog 27 1 := ⟨fun _ => by kernel_rfl⟩
instance : TSlc Try.prog 27 143 := ⟨by kernel_rfl⟩
instance : TOne Try.prog 28 := ⟨fun _ => by kernel_rfl⟩
instance : TSize Try.prog 28 1 := ⟨fun _ => by kernel_rfl⟩
instance : TSlc Try.prog 28 3 := ⟨by kernel_rfl⟩
instance : TZero Try.prog 28 [.slice none 0 0] := ⟨fun _ => ⟨(.slice none 0 0), by kernel_rfl, rfl⟩⟩
theorem row_28 : (Try.prog.info? 28).map (fun i => (i.zero, i.size, i.bytes)) = some (some (.slice none 0 0), 1, 24) := by kernel_rfl
instance : TRow Try.prog 28 1 24 := ⟨by obtain ⟨i, h1, h2, h3, h4⟩ := info_parts row_28; exact ⟨i, _, h1, h2, h3, h4, rfl, by decide⟩⟩
instance : TMk Try.prog 28 [.slice none 0 0] 24 := ⟨by obtain ⟨i, h1, h2, h3, h4⟩ := info_parts row_28; exact ⟨i, _, h1, h2, h3, h4, rfl⟩⟩
instance : TAgg Try.prog 30 5 := ⟨fun _ => by kernel_rfl, fun _ => by kernel_rfl⟩
instance : TSize Try.prog 30 5 := ⟨fun _ => by kernel_rfl⟩
instance : TFld Try.prog 30 0 0 := ⟨fun _ _ => by kernel_rfl⟩
instance : TFld Try.prog 30 1 1 := ⟨fun _ _ => by kernel_rfl⟩
instance : TFld Try.prog 30 2 3 := ⟨fun _ _ => by kernel_rfl⟩
instance : TFld Try.prog 30 3 4 := ⟨fun _ _ => by kernel_rfl⟩
instance : TOne Try.prog 33 := ⟨fun _ => by kernel_rfl⟩
instance : TSize Try.prog 33 1 := ⟨fun _ => by kernel_rfl⟩
instance : TSlc Try.prog 33 69 := ⟨by kernel_rfl⟩
instance : TOne Try.prog 34 := ⟨fun _ => by kernel_rfl⟩
instance : TSize Try.prog 34 1 := ⟨fun _ => by kernel_rfl⟩
instance : TSlc Try.prog 34 58 := ⟨by kernel_rfl⟩
instance : TOne Try.prog 35 := ⟨fun _ => by kernel_rfl⟩
instance : TSize Try.prog 35 1 := ⟨fun _ => by kernel_rfl⟩
instance : TSlc Try.prog 35 60 := ⟨by kernel_rfl⟩
instance : TAgg Try.prog 37 2 := ⟨fun _ => by kernel_rfl, fun _ => by kernel_rfl⟩
instance : TSize Try.prog 37 2 := ⟨fun _ => by kernel_rfl⟩
instance : TFld Try.prog 37 0 0 := ⟨fun _ _ => by kernel_rfl⟩
instance : TFld Try.prog 37 1 1 := ⟨fun _ _ => by kernel_rfl⟩
instance : TZero Try.prog 37 [.slice none 0 0, .slice none 0 0] := ⟨fun _ => ⟨(.agg #[.slice none 0 0, .slice none 0 0]), by kernel_rfl, rfl⟩⟩
instance : TOne Try.prog 38 := ⟨fun _ => by kernel_rfl⟩
instance : TSize Try.prog 38 1 := ⟨fun _ => by kernel_rfl⟩
instance : TSlc Try.prog 38 98 := ⟨by kernel_rfl⟩
instance : TAgg Try.prog 40 5 := ⟨fun _ => by kernel_rfl, fun _ => by kernel_rfl⟩
instance : TSize Try.prog 40 5 := ⟨fun _ => by kernel_rfl⟩
instance : TFld Try.prog 40 0 0 := ⟨fun _ _ => by kernel_rfl⟩
instance : TFld Try.prog 40 1 1 := ⟨fun _ _ => by kernel_rfl⟩
instance : TFld Try.prog 40 2 3 := ⟨fun _ _ => by kernel_rfl⟩
instance : TFld Try.prog 40 3 4 := ⟨fun _ _ => by kernel_rfl⟩
instance : TZero Try.prog 40 [.slice none 0 0, .slice none 0 0, .slice none 0 0, .slice none 0 0, .slice none 0 0] := ⟨fun _ => ⟨(.agg #[.slice none 0 0, .slice none 0 0, .slice none 0 0, .slice none 0 0, .slice none 0 0]), by kernel_rfl, rfl⟩⟩
instance : TOne Try.prog 52 := ⟨fun _ => by kernel_rfl⟩
instance : TSize Try.prog 52 1 := ⟨fun _ => by kernel_rfl⟩
instance : TSlc Try.prog 52 5 := ⟨by kernel_rfl⟩
instance : TOne Try.prog 53 := ⟨fun _ => by kernel_rfl⟩
instance : TSize Try.prog 53 1 := ⟨fun _ => by kernel_rfl⟩
instance : TSlc Try.prog 53 66 := ⟨by kernel_rfl⟩
instance : TAgg Try.prog 58 2 := ⟨fun _ => by kernel_rfl, fun _ => by kernel_rfl⟩
instance : TSize Try.prog 58 2 := ⟨fun _ => by kernel_rfl⟩
instance : TFld Try.prog 58 0 0 := ⟨fun _ _ => by kernel_rfl⟩
instance : TFld Try.prog 58 1 1 := ⟨fun _ _ => by kernel_rfl⟩
instance : TZero Try.prog 58 [.int .i64 0, .int .i64 0] := ⟨fun _ => ⟨(.agg #[.int .i64 0, .int .i64 0]), by kernel_rfl, rfl⟩⟩
theorem row_58 : (Try.prog.info? 58).map (fun i => (i.zero, i.size, i.bytes)) = some (some (.agg #[.int .i64 0, .int .i64 0]), 2, 16) := by kernel_rfl
instance : TRow Try.prog 58 2 16 := ⟨by obtain ⟨i, h1, h2, h3, h4⟩ := info_parts row_58; exact ⟨i, _, h1, h2, h3, h4, rfl, by decide⟩⟩
instance : TMk Try.prog 58 [.int .i64 0, .int .i64 0] 16 := ⟨by obtain ⟨i, h1, h2, h3, h4⟩ := info_parts row_58; exact ⟨i, _, h1, h2, h3, h4, rfl⟩⟩
instance : TAgg Try.prog 60 5 := ⟨fun _ => by kernel_rfl, fun _ => by kernel_rfl⟩
instance : TSize Try.prog 60 5 := ⟨fun _ => by kernel_rfl⟩
instance : TFld Try.prog 60 0 0 := ⟨fun _ _ => by kernel_rfl⟩
instance : TFld Try.prog 60 1 1 := ⟨fun _ _ => by kernel_rfl⟩
instance : TFld Try.prog 60 2 3 := ⟨fun _ _ => by kernel_rfl⟩
instance : TZero Try.prog 60 [.int .i64 0, .int .i64 0, .int .i64 0, .int .i64 0, .int .i64 0] := ⟨fun _ => ⟨(.agg #[.int .i64 0, .int .i64 0, .int .i64 0, .int .i64 0, .int .i64 0]), by kernel_rfl, rfl⟩⟩
theorem row_60 : (Try.prog.info? 60).map (fun i => (i.zero, i.size, i.bytes)) = some (some (.agg #[.int .i64 0, .int .i64 0, .int .i64 0, .int .i64 0, .int .i64 0]), 5, 40) := by kernel_rfl
instance : TRow Try.prog 60 5 40 := ⟨by obtain ⟨i, h1, h2, h3, h4⟩ := info_parts row_60; exact ⟨i, _, h1, h2, h3, h4, rfl, by decide⟩⟩
instance : TMk Try.prog 60 [.int .i64 0, .int .i64 0, .int .i64 0, .int .i64 0, .int .i64 0] 40 := ⟨by obtain ⟨i, h1, h2, h3, h4⟩ := info_parts row_60; exact ⟨i, _, h1, h2, h3, h4, rfl⟩⟩
instance : TAgg Try.prog 62 8 := ⟨fun _ => by kernel_rfl, fun _ => by kernel_rfl⟩
instance : TSize Try.prog 62 8 := ⟨fun _ => by kernel_rfl⟩
instance : TFld Try.prog 62 0 0 := ⟨fun _ _ => by kernel_rfl⟩
instance : TFld Try.prog 62 1 1 := ⟨fun _ _ => by kernel_rfl⟩
instance : TFld Try.prog 62 2 3 := ⟨fun _ _ => by kernel_rfl⟩
instance : TZero Try.prog 62 [.int .i64 0, .int .i64 0, .int .i64 0, .int .i64 0, .int .i64 0, .int .i64 0, .int .i64 0, .int .i64 0] := ⟨fun _ => ⟨(.agg #[.int .i64 0, .int .i64 0, .int .i64 0, .int .i64 0, .int .i64 0, .int .i64 0, .int .i64 0, .int .i64 0]), by kernel_rfl, rfl⟩⟩
instance : TAgg Try.prog 64 3 := ⟨fun _ => by kernel_rfl, fun _ => by kernel_rfl⟩
instance : TSize Try.prog 64 3 := ⟨fun _ => by kernel_rfl⟩
instance : TFld Try.prog 64 0 0 := ⟨fun _ _ => by kernel_rfl⟩
instance : TFld Try.prog 64 1 1 := ⟨fun _ _ => by kernel_rfl⟩
instance : TZero Try.prog 64 [.int .i64 0, .int .i64 0, .int .i64 0] := ⟨fun _ => ⟨(.agg #[.int .i64 0, .int .i64 0, .int .i64 0]), by kernel_rfl, rfl⟩⟩
instance : TAgg Try.prog 66 13 := ⟨fun _ => by kernel_rfl, fun _ => by kernel_rfl⟩
instance : TSize Try.prog 66 13 := ⟨fun _ => by kernel_rfl⟩
instance : TFld Try.prog 66 0 0 := ⟨fun _ _ => by kernel_rfl⟩
instance : TFld Try.prog 66 1 1 := ⟨fun _ _ => by kernel_rfl⟩
instance : TFld Try.prog 66 2 2 := ⟨fun _ _ => by kernel_rfl⟩
instance : TFld Try.prog 66 3 10 := ⟨fun _ _ => by kernel_rfl⟩
instance : TZero Try.prog 66 [.int .i64 0, .int .i64 0, .int .i64 0, .int .i64 0, .int .i64 0, .int .i64 0, .int .i64 0, .int .i64 0, .int .i64 0, .int .i64 0, .int .i64 0, .int .i64 0, .int .i64 0] := ⟨fun _ => ⟨(.agg #[.int .i64 0, .int .i64 0, .int .i64 0, .int .i64 0, .int .i64 0, .int .i64 0, .int .i64 0, .int .i64 0, .int .i64 0, .int .i64 0, .int .i64 0, .int .i64 0, .int .i64 0]), by kernel_rfl, rfl⟩⟩
theorem row_66 : (Try.prog.info? 66).map (fun i => (i.zero, i.size, i.bytes)) = some (some (.agg #[.int .i64 0, .int .i64 0, .int .i64 0, .int .i64 0, .int .i64 0, .int .i64 0, .int .i64 0, .int .i64 0, .int .i64 0, .int .i64 0, .int .i64 0, .int .i64 0, .int .i64 0]), 13, 104) := by kernel_rfl
instance : TRow Try.prog 66 13 104 := ⟨by obtain ⟨i, h1, h2, h3, h4⟩ := info_parts row_66; exact ⟨i, _, h1, h2, h3, h4, rfl, by decide⟩⟩
instance : TMk Try.prog 66 [.int .i64 0, .int .i64 0, .int .i64 0, .int .i64 0, .int .i64 0, .int .i64 0, .int .i64 0, .int .i64 0, .int .i64 0, .int .i64 0, .int .i64 0, .int .i64 0, .int .i64 0] 104 := ⟨by obtain ⟨i, h1, h2, h3, h4⟩ := info_parts row_66; exact ⟨i, _, h1, h2, h3, h4, rfl⟩⟩
instance : TAgg Try.prog 69 3 := ⟨fun _ => by kernel_rfl, fun _ => by kernel_rfl⟩
instance : TSize Try.prog 69 3 := ⟨fun _ => by kernel_rfl⟩
instance : TFld Try.prog 69 0 0 := ⟨fun _ _ => by kernel_rfl⟩
instance : TFld Try.prog 69 1 1 := ⟨fun _ _ => by kernel_rfl⟩
instance : TFld Try.prog 69 2 2 := ⟨fun _ _ => by kernel_rfl⟩
instance : TZero Try.prog 69 [.int .i64 0, .int .i64 0, .int .i64 0] := ⟨fun _ => ⟨(.agg #[.int .i64 0, .int .i64 0, .int .i64 0]), by kernel_rfl, rfl⟩⟩
theorem row_69 : (Try.prog.info? 69).map (fun i => (i.zero, i.size, i.bytes)) = some (some (.agg #[.int .i64 0, .int .i64 0, .int .i64 0]), 3, 24) := by kernel_rfl
instance : TRow Try.prog 69 3 24 := ⟨by obtain ⟨i, h1, h2, h3, h4⟩ := info_parts row_69; exact ⟨i, _, h1, h2, h3, h4, rfl, by decide⟩⟩
instance : TMk Try.prog 69 [.int .i64 0, .int .i64 0, .int .i64 0] 24 := ⟨by obtain ⟨i, h1, h2, h3, h4⟩ := info_parts row_69; exact ⟨i, _, h1, h2, h3, h4, rfl⟩⟩
instance : TAgg Try.prog 75 2 := ⟨fun _ => by kernel_rfl, fun _ => by kernel_rfl⟩
instance : TSize Try.prog 75 2 := ⟨fun _ => by kernel_rfl⟩
instance : TFld Try.prog 75 0 0 := ⟨fun _ _ => by kernel_rfl⟩
instance : TFld Try.prog 75 1 1 := ⟨fun _ _ => by kernel_rfl⟩
instance : TZero Try.prog 75 [.int .i64 0, .int .i64 0] := ⟨fun _ => ⟨(.agg #[.int .i64 0, .int .i64 0]), by kernel_rfl, rfl⟩⟩
theorem row_75 : (Try.prog.info? 75).map (fun i => (i.zero, i.size, i.bytes)) = some (some (.agg #[.int .i64 0, .int .i64 0]), 2, 16) := by kernel_rfl
instance : TRow Try.prog 75 2 16 := ⟨by obtain ⟨i, h1, h2, h3, h4⟩ := info_parts row_75; exact ⟨i, _, h1, h2, h3, h4, rfl, by decide⟩⟩
instance : TMk Try.prog 75 [.int .i64 0, .int .i64 0] 16 := ⟨by obtain ⟨i, h1, h2, h3, h4⟩ := info_parts row_75; exact ⟨i, _, h1, h2, h3, h4, rfl⟩⟩
instance : TAgg Try.prog 77 3 := ⟨fun _ => by kernel_rfl, fun _ => by kernel_rfl⟩
instance : TSize Try.prog 77 3 := ⟨fun _ => by kernel_rfl⟩
instance : TFld Try.prog 77 0 0 := ⟨fun _ _ => by kernel_rfl⟩
instance : TFld Try.prog 77 1 1 := ⟨fun _ _ => by kernel_rfl⟩
instance : TOne Try.prog 95 := ⟨fun _ => by kernel_rfl⟩
instance : TSize Try.prog 95 1 := ⟨fun _ => by kernel_rfl⟩
instance : TOne Try.prog 96 := ⟨fun _ => by kernel_rfl⟩
instance : TSize Try.prog 96 1 := ⟨fun _ => by kernel_rfl⟩
instance : TSlc Try.prog 96 145 := ⟨by kernel_rfl⟩
instance : TAgg Try.prog 98 2 := ⟨fun _ => by kernel_rfl, fun _ => by kernel_rfl⟩
instance : TSize Try.prog 98 2 := ⟨fun _ => by kernel_rfl⟩
instance : TFld Try.prog 98 0 0 := ⟨fun _ _ => by kernel_rfl⟩
instance : TFld Try.prog 98 1 1 := ⟨fun _ _ => by kernel_rfl⟩
instance : TZero Try.prog 98 [.int .i64 0, .slice none 0 0] := ⟨fun _ => ⟨(.agg #[.int .i64 0, .slice none 0 0]), by kernel_rfl, rfl⟩⟩
theorem row_98 : (Try.prog.info? 98).map (fun i => (i.zero, i.size, i.bytes)) = some (some (.agg #[.int .i64 0, .slice none 0 0]), 2, 32) := by kernel_rfl
instance : TRow Try.prog 98 2 32 := ⟨by obtain ⟨i, h1, h2, h3, h4⟩ := info_parts row_98; exact ⟨i, _, h1, h2, h3, h4, rfl, by decide⟩⟩
instance : TMk Try.prog 98 [.int .i64 0, .slice none 0 0] 32 := ⟨by obtain ⟨i, h1, h2, h3, h4⟩ := info_parts row_98; exact ⟨i, _, h1, h2, h3, h4, rfl⟩⟩
instance : TAgg Try.prog 105 3 := ⟨fun _ => by kernel_rfl, fun _ => by kernel_rfl⟩
instance : TSize Try.prog 105 3 := ⟨fun _ => by kernel_rfl⟩
instance : TFld Try.prog 105 0 0 := ⟨fun _ _ => by kernel_rfl⟩
instance : TFld Try.prog 105 1 1 := ⟨fun _ _ => by kernel_rfl⟩
instance : TFld Try.prog 105 2 2 := ⟨fun _ _ => by kernel_rfl⟩
instance : TZero Try.prog 105 [.int .i64 0, .int .i64 0, .int .i64 0] := ⟨fun _ => ⟨(.agg #[.int .i64 0, .int .i64 0, .int .i64 0]), by kernel_rfl, rfl⟩⟩
theorem row_105 : (Try.prog.info? 105).map (fun i => (i.zero, i.size, i.bytes)) = some (some (.agg #[.int .i64 0, .int .i64 0, .int .i64 0]), 3, 24) := by kernel_rfl
instance : TRow Try.prog 105 3 24 := ⟨by obtain ⟨i, h1, h2, h3, h4⟩ := info_parts row_105; exact ⟨i, _, h1, h2, h3, h4, rfl, by decide⟩⟩
instance : TMk Try.prog 105 [.int .i64 0, .int .i64 0, .int .i64 0] 24 := ⟨by obtain ⟨i, h1, h2, h3, h4⟩ := info_parts row_105; exact ⟨i, _, h1, h2, h3, h4, rfl⟩⟩
instance : TOne Try.prog 111 := ⟨fun _ => by kernel_rfl⟩
instance : TSize Try.prog 111 1 := ⟨fun _ => by kernel_rfl⟩
instance : TInt Try.prog 111 .u8 := ⟨by kernel_rfl⟩
instance : TOne Try.prog 128 := ⟨fun _ => by kernel_rfl⟩
instance : TSize Try.prog 128 1 := ⟨fun _ => by kernel_rfl⟩
instance : TOne Try.prog 134 := ⟨fun _ => by kernel_rfl⟩
instance : TSize Try.prog 134 1 := ⟨fun _ => by kernel_rfl⟩
instance : TSlc Try.prog 134 28 := ⟨by kernel_rfl⟩
instance : TOne Try.prog 138 := ⟨fun _ => by kernel_rfl⟩
instance : TSize Try.prog 138 1 := ⟨fun _ => by kernel_rfl⟩
instance : TOne Try.prog 141 := ⟨fun _ => by kernel_rfl⟩
instance : TSize Try.prog 141 1 := ⟨fun _ => by kernel_rfl⟩
instance : TSlc Try.prog 141 208 := ⟨by kernel_rfl⟩
instance : TAgg Try.prog 143 2 := ⟨fun _ => by kernel_rfl, fun _ => by kernel_rfl⟩
instance : TSize Try.prog 143 2 := ⟨fun _ => by kernel_rfl⟩
instance : TFld Try.prog 143 0 0 := ⟨fun _ _ => by kernel_rfl⟩
instance : TFld Try.prog 143 1 1 := ⟨fun _ _ => by kernel_rfl⟩
instance : TZero Try.prog 143 [.int .i64 0, .slice none 0 0] := ⟨fun _ => ⟨(.agg #[.int .i64 0, .slice none 0 0]), by kernel_rfl, rfl⟩⟩
theorem row_143 : (Try.prog.info? 143).map (fun i => (i.zero, i.size, i.bytes)) = some (some (.agg #[.int .i64 0, .slice none 0 0]), 2, 32) := by kernel_rfl
instance : TRow Try.prog 143 2 32 := ⟨by obtain ⟨i, h1, h2, h3, h4⟩ := info_parts row_143; exact ⟨i, _, h1, h2, h3, h4, rfl, by decide⟩⟩
instance : TMk Try.prog 143 [.int .i64 0, .slice none 0 0] 32 := ⟨by obtain ⟨i, h1, h2, h3, h4⟩ := info_parts row_143; exact ⟨i, _, h1, h2, h3, h4, rfl⟩⟩
instance : TAgg Try.prog 145 2 := ⟨fun _ => by kernel_rfl, fun _ => by kernel_rfl⟩
instance : TSize Try.prog 145 2 := ⟨fun _ => by kernel_rfl⟩
instance : TFld Try.prog 145 0 0 := ⟨fun _ _ => by kernel_rfl⟩
instance : TFld Try.prog 145 1 1 := ⟨fun _ _ => by kernel_rfl⟩
instance : TZero Try.prog 145 [.int .i64 0, .int .i64 0] := ⟨fun _ => ⟨(.agg #[.int .i64 0, .int .i64 0]), by kernel_rfl, rfl⟩⟩
theorem row_145 : (Try.prog.info? 145).map (fun i => (i.zero, i.size, i.bytes)) = some (some (.agg #[.int .i64 0, .int .i64 0]), 2, 16) := by kernel_rfl
instance : TRow Try.prog 145 2 16 := ⟨by obtain ⟨i, h1, h2, h3, h4⟩ := info_parts row_145; exact ⟨i, _, h1, h2, h3, h4, rfl, by decide⟩⟩
instance : TMk Try.prog 145 [.int .i64 0, .int .i64 0] 16 := ⟨by obtain ⟨i, h1, h2, h3, h4⟩ := info_parts row_145; exact ⟨i, _, h1, h2, h3, h4, rfl⟩⟩
instance : TOne Try.prog 159 := ⟨fun _ => by kernel_rfl⟩
instance : TSize Try.prog 159 1 := ⟨fun _ => by kernel_rfl⟩
instance : TSlc Try.prog 159 4 := ⟨by kernel_rfl⟩
instance : TAgg Try.prog 164 5 := ⟨fun _ => by kernel_rfl, fun _ => by kernel_rfl⟩
instance : TSize Try.prog 164 5 := ⟨fun _ => by kernel_rfl⟩
instance : TFld Try.prog 164 0 0 := ⟨fun _ _ => by kernel_rfl⟩
instance : TFld Try.prog 164 1 1 := ⟨fun _ _ => by kernel_rfl⟩
instance : TFld Try.prog 164 2 3 := ⟨fun _ _ => by kernel_rfl⟩
instance : TZero Try.prog 164 [.int .i64 0, .int .i64 0, .int .i64 0, .int .i64 0, .int .i64 0] := ⟨fun _ => ⟨(.agg #[.int .i64 0, .int .i64 0, .int .i64 0, .int .i64 0, .int .i64 0]), by kernel_rfl, rfl⟩⟩
theorem row_164 : (Try.prog.info? 164).map (fun i => (i.zero, i.size, i.bytes)) = some (some (.agg #[.int .i64 0, .int .i64 0, .int .i64 0, .int .i64 0, .int .i64 0]), 5, 40) := by kernel_rfl
instance : TRow Try.prog 164 5 40 := ⟨by obtain ⟨i, h1, h2, h3, h4⟩ := info_parts row_164; exact ⟨i, _, h1, h2, h3, h4, rfl, by decide⟩⟩
instance : TMk Try.prog 164 [.int .i64 0, .int .i64 0, .int .i64 0, .int .i64 0, .int .i64 0] 40 := ⟨by obtain ⟨i, h1, h2, h3, h4⟩ := info_parts row_164; exact ⟨i, _, h1, h2, h3, h4, rfl⟩⟩
instance : TAgg Try.prog 170 2 := ⟨fun _ => by kernel_rfl, fun _ => by kernel_rfl⟩
instance : TSize Try.prog 170 2 := ⟨fun _ => by kernel_rfl⟩
instance : TFld Try.prog 170 0 0 := ⟨fun _ _ => by kernel_rfl⟩
instance : TFld Try.prog 170 1 1 := ⟨fun _ _ => by kernel_rfl⟩
instance : TOne Try.prog 180 := ⟨fun _ => by kernel_rfl⟩
instance : TSize Try.prog 180 1 := ⟨fun _ => by kernel_rfl⟩
instance : TInt Try.prog 180 .u64 := ⟨by kernel_rfl⟩
instance : TAgg Try.prog 183 8 := ⟨fun _ => by kernel_rfl, fun _ => by kernel_rfl⟩
instance : TSize Try.prog 183 8 := ⟨fun _ => by kernel_rfl⟩
instance : TArr Try.prog 183 8 3 := ⟨by kernel_rfl⟩
instance : TZero Try.prog 183 [.int .i64 0, .int .i64 0, .int .i64 0, .int .i64 0, .int .i64 0, .int .i64 0, .int .i64 0, .int .i64 0] := ⟨fun _ => ⟨(.agg #[.int .i64 0, .int .i64 0, .int .i64 0, .int .i64 0, .int .i64 0, .int .i64 0, .int .i64 0, .int .i64 0]), by kernel_rfl, rfl⟩⟩
instance : TOne Try.prog 197 := ⟨fun _ => by kernel_rfl⟩
instance : TSize Try.prog 197 1 := ⟨fun _ => by kernel_rfl⟩
instance : TInt Try.prog 197 .i64 := ⟨by kernel_rfl⟩
instance : TOne Try.prog 204 := ⟨fun _ => by kernel_rfl⟩
instance : TSize Try.prog 204 1 := ⟨fun _ => by kernel_rfl⟩
instance : TInt Try.prog 204 .u32 := ⟨by kernel_rfl⟩
instance : TOne Try.prog 206 := ⟨fun _ => by kernel_rfl⟩
instance : TSize Try.prog 206 1 := ⟨fun _ => by kernel_rfl⟩
instance : TInt Try.prog 206 .u64 := ⟨by kernel_rfl⟩
instance : TAgg Try.prog 208 2 := ⟨fun _ => by kernel_rfl, fun _ => by kernel_rfl⟩
instance : TSize Try.prog 208 2 := ⟨fun _ => by kernel_rfl⟩
instance : TFld Try.prog 208 0 0 := ⟨fun _ _ => by kernel_rfl⟩
instance : TFld Try.prog 208 1 1 := ⟨fun _ _ => by kernel_rfl⟩
instance : TZero Try.prog 208 [.int .i64 0, .int .i64 0] := ⟨fun _ => ⟨(.agg #[.int .i64 0, .int .i64 0]), by kernel_rfl, rfl⟩⟩
theorem row_208 : (Try.prog.info? 208).map (fun i => (i.zero, i.size, i.bytes)) = some (some (.agg #[.int .i64 0, .int .i64 0]), 2, 16) := by kernel_rfl
instance : TRow Try.prog 208 2 16 := ⟨by obtain ⟨i, h1, h2, h3, h4⟩ := info_parts row_208; exact ⟨i, _, h1, h2, h3, h4, rfl, by decide⟩⟩
instance : TMk Try.prog 208 [.int .i64 0, .int .i64 0] 16 := ⟨by obtain ⟨i, h1, h2, h3, h4⟩ := info_parts row_208; exact ⟨i, _, h1, h2, h3, h4, rfl⟩⟩
instance : TAgg Try.prog 213 3 := ⟨fun _ => by kernel_rfl, fun _ => by kernel_rfl⟩
instance : TSize Try.prog 213 3 := ⟨fun _ => by kernel_rfl⟩
instance : TFld Try.prog 213 0 0 := ⟨fun _ _ => by kernel_rfl⟩
instance : TFld Try.prog 213 1 1 := ⟨fun _ _ => by kernel_rfl⟩
instance : TFld Try.prog 213 2 2 := ⟨fun _ _ => by kernel_rfl⟩
instance : TZero Try.prog 213 [.int .i64 0, .slice none 0 0, .int .i64 0] := ⟨fun _ => ⟨(.agg #[.int .i64 0, .slice none 0 0, .int .i64 0]), by kernel_rfl, rfl⟩⟩
instance : TOne Try.prog 219 := ⟨fun _ => by kernel_rfl⟩
instance : TSize Try.prog 219 1 := ⟨fun _ => by kernel_rfl⟩
instance : TInt Try.prog 219 .u64 := ⟨by kernel_rfl⟩
instance : TZero Try.prog 219 [.int .u64 0] := ⟨fun _ => ⟨(.int .u64 0), by kernel_rfl, rfl⟩⟩
instance : TOne Try.prog 223 := ⟨fun _ => by kernel_rfl⟩
instance : TSize Try.prog 223 1 := ⟨fun _ => by kernel_rfl⟩
instance : TOne Try.prog 232 := ⟨fun _ => by kernel_rfl⟩
instance : TSize Try.prog 232 1 := ⟨fun _ => by kernel_rfl⟩
instance : TSlc Try.prog 232 238 := ⟨by kernel_rfl⟩
instance : TAgg Try.prog 238 2 := ⟨fun _ => by kernel_rfl, fun _ => by kernel_rfl⟩
instance : TSize Try.prog 238 2 := ⟨fun _ => by kernel_rfl⟩
instance : TFld Try.prog 238 0 0 := ⟨fun _ _ => by kernel_rfl⟩
instance : TFld Try.prog 238 1 1 := ⟨fun _ _ => by kernel_rfl⟩
instance : TZero Try.prog 238 [.int .i64 0, .string ⟨#[]⟩] := ⟨fun _ => ⟨(.agg #[.int .i64 0, .string ⟨#[]⟩]), by kernel_rfl, rfl⟩⟩
theorem row_238 : (Try.prog.info? 238).map (fun i => (i.zero, i.size, i.bytes)) = some (some (.agg #[.int .i64 0, .string ⟨#[]⟩]), 2, 24) := by kernel_rfl
instance : TRow Try.prog 238 2 24 := ⟨by obtain ⟨i, h1, h2, h3, h4⟩ := info_parts row_238; exact ⟨i, _, h1, h2, h3, h4, rfl, by decide⟩⟩
instance : TMk Try.prog 238 [.int .i64 0, .string ⟨#[]⟩] 24 := ⟨by obtain ⟨i, h1, h2, h3, h4⟩ := info_parts row_238; exact ⟨i, _, h1, h2, h3, h4, rfl⟩⟩
instance : TLay Try.prog 37 [.slice none 0 0, .slice none 0 0] #[(0, 1), (1, 1)] := ⟨fun _ => ⟨.agg #[.slice none 0 0, .slice none 0 0], by kernel_rfl, rfl⟩, ⟨Try.prog.fieldsOf 37, by kernel_rfl, fun _ => by kernel_rfl⟩⟩
instance : TLay Try.prog 40 [.slice none 0 0, .slice none 0 0, .slice none 0 0, .slice none 0 0, .slice none 0 0] #[(0, 1), (1, 2), (3, 1), (4, 1)] := ⟨fun _ => ⟨.agg #[.slice none 0 0, .slice none 0 0, .slice none 0 0, .slice none 0 0, .slice none 0 0], by kernel_rfl, rfl⟩, ⟨Try.prog.fieldsOf 40, by kernel_rfl, fun _ => by kernel_rfl⟩⟩
instance : TLay Try.prog 58 [.int .i64 0, .int .i64 0] #[(0, 1), (1, 1)] := ⟨fun _ => ⟨.agg #[.int .i64 0, .int .i64 0], by kernel_rfl, rfl⟩, ⟨Try.prog.fieldsOf 58, by kernel_rfl, fun _ => by kernel_rfl⟩⟩
instance : TLay Try.prog 60 [.int .i64 0, .int .i64 0, .int .i64 0, .int .i64 0, .int .i64 0] #[(0, 1), (1, 2), (3, 2)] := ⟨fun _ => ⟨.agg #[.int .i64 0, .int .i64 0, .int .i64 0, .int .i64 0, .int .i64 0], by kernel_rfl, rfl⟩, ⟨Try.prog.fieldsOf 60, by kernel_rfl, fun _ => by kernel_rfl⟩⟩
instance : TLay Try.prog 62 [.int .i64 0, .int .i64 0, .int .i64 0, .int .i64 0, .int .i64 0, .int .i64 0, .int .i64 0, .int .i64 0] #[(0, 1), (1, 2), (3, 5)] := ⟨fun _ => ⟨.agg #[.int .i64 0, .int .i64 0, .int .i64 0, .int .i64 0, .int .i64 0, .int .i64 0, .int .i64 0, .int .i64 0], by kernel_rfl, rfl⟩, ⟨Try.prog.fieldsOf 62, by kernel_rfl, fun _ => by kernel_rfl⟩⟩
instance : TLay Try.prog 64 [.int .i64 0, .int .i64 0, .int .i64 0] #[(0, 1), (1, 2)] := ⟨fun _ => ⟨.agg #[.int .i64 0, .int .i64 0, .int .i64 0], by kernel_rfl, rfl⟩, ⟨Try.prog.fieldsOf 64, by kernel_rfl, fun _ => by kernel_rfl⟩⟩
instance : TLay Try.prog 66 [.int .i64 0, .int .i64 0, .int .i64 0, .int .i64 0, .int .i64 0, .int .i64 0, .int .i64 0, .int .i64 0, .int .i64 0, .int .i64 0, .int .i64 0, .int .i64 0, .int .i64 0] #[(0, 1), (1, 1), (2, 8), (10, 3)] := ⟨fun _ => ⟨.agg #[.int .i64 0, .int .i64 0, .int .i64 0, .int .i64 0, .int .i64 0, .int .i64 0, .int .i64 0, .int .i64 0, .int .i64 0, .int .i64 0, .int .i64 0, .int .i64 0, .int .i64 0], by kernel_rfl, rfl⟩, ⟨Try.prog.fieldsOf 66, by kernel_rfl, fun _ => by kernel_rfl⟩⟩
instance : TLay Try.prog 69 [.int .i64 0, .int .i64 0, .int .i64 0] #[(0, 1), (1, 1), (2, 1)] := ⟨fun _ => ⟨.agg #[.int .i64 0, .int .i64 0, .int .i64 0], by kernel_rfl, rfl⟩, ⟨Try.prog.fieldsOf 69, by kernel_rfl, fun _ => by kernel_rfl⟩⟩
instance : TLay Try.prog 98 [.int .i64 0, .slice none 0 0] #[(0, 1), (1, 1)] := ⟨fun _ => ⟨.agg #[.int .i64 0, .slice none 0 0], by kernel_rfl, rfl⟩, ⟨Try.prog.fieldsOf 98, by kernel_rfl, fun _ => by kernel_rfl⟩⟩
instance : TLay Try.prog 145 [.int .i64 0, .int .i64 0] #[(0, 1), (1, 1)] := ⟨fun _ => ⟨.agg #[.int .i64 0, .int .i64 0], by kernel_rfl, rfl⟩, ⟨Try.prog.fieldsOf 145, by kernel_rfl, fun _ => by kernel_rfl⟩⟩
instance : TLay Try.prog 170 [.slice none 0 0, .int .i64 0] #[(0, 1), (1, 1)] := ⟨fun _ => ⟨.agg #[.slice none 0 0, .int .i64 0], by kernel_rfl, rfl⟩, ⟨Try.prog.fieldsOf 170, by kernel_rfl, fun _ => by kernel_rfl⟩⟩
instance : TLay Try.prog 213 [.int .i64 0, .slice none 0 0, .int .i64 0] #[(0, 1), (1, 1), (2, 1)] := ⟨fun _ => ⟨.agg #[.int .i64 0, .slice none 0 0, .int .i64 0], by kernel_rfl, rfl⟩, ⟨Try.prog.fieldsOf 213, by kernel_rfl, fun _ => by kernel_rfl⟩⟩
instance : TLay Try.prog 238 [.int .i64 0, .string ⟨#[]⟩] #[(0, 1), (1, 1)] := ⟨fun _ => ⟨.agg #[.int .i64 0, .string ⟨#[]⟩], by kernel_rfl, rfl⟩, ⟨Try.prog.fieldsOf 238, by kernel_rfl, fun _ => by kernel_rfl⟩⟩
theorem eqi_58 (d : Nat) (a0 a1 b0 b1 : Int) (w : World) : (Op.equalIn (d + 2) 58 (.agg #[.int .i64 a0, .int .i64 a1]) (.agg #[.int .i64 b0, .int .i64 b1])).run Try.prog w = .ok (decide (a0 = b0) && (decide (a1 = b1) && true)) w := by
  rw [run_equalIn_struct w (d + 1) 58 _ _ (by kernel_rfl) (by kernel_rfl)]
  have h : (Try.prog.fieldsOf 58).toList.map (fun f => (f.name, f.type, f.offset)) = [("Label", 3, 0), ("Num", 3, 1)] := by kernel_rfl
  generalize (Try.prog.fieldsOf 58).toList = fs at h
  have hl : fs.length = 2 := by simpa using congrArg List.length h
  match fs, hl, h with
  | [f0, f1], _, h =>
    simp only [List.map_cons, List.map_nil, List.cons.injEq, Prod.mk.injEq, and_true] at h
    obtain ⟨⟨n0, t0, o0⟩, n1, t1, o1⟩ := h
    exact (eqF_int (t := 3) _ _ _ w _ _ _ _ (by rw [n0]; decide) t0 (by rw [o0]; rfl) (by rw [o0]; rfl) _ (eqF_int (t := 3) _ _ _ w _ _ _ _ (by rw [n1]; decide) t1 (by rw [o1]; rfl) (by rw [o1]; rfl) _ (eqF_nil _ _ _ _)))
instance : TEqI Try.prog 58 2 := ⟨by kernel_rfl, fun is js hi hj w => by
  match is, js, hi, hj with
  | [a0, a1], [b0, b1], _, _ =>
    have h := eqi_58 (10000 - 2) a0 a1 b0 b1 w
    refine h.trans ?_
    simp [Bool.decide_and, Bool.and_assoc]⟩
theorem eqi_69 (d : Nat) (a0 a1 a2 b0 b1 b2 : Int) (w : World) : (Op.equalIn (d + 2) 69 (.agg #[.int .i64 a0, .int .i64 a1, .int .i64 a2]) (.agg #[.int .i64 b0, .int .i64 b1, .int .i64 b2])).run Try.prog w = .ok (decide (a0 = b0) && (decide (a1 = b1) && (decide (a2 = b2) && true))) w := by
  rw [run_equalIn_struct w (d + 1) 69 _ _ (by kernel_rfl) (by kernel_rfl)]
  have h : (Try.prog.fieldsOf 69).toList.map (fun f => (f.name, f.type, f.offset)) = [("Clear", 3, 0), ("Size", 3, 1), ("Quota", 3, 2)] := by kernel_rfl
  generalize (Try.prog.fieldsOf 69).toList = fs at h
  have hl : fs.length = 3 := by simpa using congrArg List.length h
  match fs, hl, h with
  | [f0, f1, f2], _, h =>
    simp only [List.map_cons, List.map_nil, List.cons.injEq, Prod.mk.injEq, and_true] at h
    obtain ⟨⟨n0, t0, o0⟩, ⟨n1, t1, o1⟩, n2, t2, o2⟩ := h
    exact (eqF_int (t := 3) _ _ _ w _ _ _ _ (by rw [n0]; decide) t0 (by rw [o0]; rfl) (by rw [o0]; rfl) _ (eqF_int (t := 3) _ _ _ w _ _ _ _ (by rw [n1]; decide) t1 (by rw [o1]; rfl) (by rw [o1]; rfl) _ (eqF_int (t := 3) _ _ _ w _ _ _ _ (by rw [n2]; decide) t2 (by rw [o2]; rfl) (by rw [o2]; rfl) _ (eqF_nil _ _ _ _))))
instance : TEqI Try.prog 69 3 := ⟨by kernel_rfl, fun is js hi hj w => by
  match is, js, hi, hj with
  | [a0, a1, a2], [b0, b1, b2], _, _ =>
    have h := eqi_69 (10000 - 2) a0 a1 a2 b0 b1 b2 w
    refine h.trans ?_
    simp [Bool.decide_and, Bool.and_assoc]⟩
theorem eqi_75 (d : Nat) (a0 a1 b0 b1 : Int) (w : World) : (Op.equalIn (d + 2) 75 (.agg #[.int .i64 a0, .int .i64 a1]) (.agg #[.int .i64 b0, .int .i64 b1])).run Try.prog w = .ok (decide (a0 = b0) && (decide (a1 = b1) && true)) w := by
  rw [run_equalIn_struct w (d + 1) 75 _ _ (by kernel_rfl) (by kernel_rfl)]
  have h : (Try.prog.fieldsOf 75).toList.map (fun f => (f.name, f.type, f.offset)) = [("Label", 3, 0), ("Num", 3, 1)] := by kernel_rfl
  generalize (Try.prog.fieldsOf 75).toList = fs at h
  have hl : fs.length = 2 := by simpa using congrArg List.length h
  match fs, hl, h with
  | [f0, f1], _, h =>
    simp only [List.map_cons, List.map_nil, List.cons.injEq, Prod.mk.injEq, and_true] at h
    obtain ⟨⟨n0, t0, o0⟩, n1, t1, o1⟩ := h
    exact (eqF_int (t := 3) _ _ _ w _ _ _ _ (by rw [n0]; decide) t0 (by rw [o0]; rfl) (by rw [o0]; rfl) _ (eqF_int (t := 3) _ _ _ w _ _ _ _ (by rw [n1]; decide) t1 (by rw [o1]; rfl) (by rw [o1]; rfl) _ (eqF_nil _ _ _ _)))
instance : TEqI Try.prog 75 2 := ⟨by kernel_rfl, fun is js hi hj w => by
  match is, js, hi, hj with
  | [a0, a1], [b0, b1], _, _ =>
    have h := eqi_75 (10000 - 2) a0 a1 b0 b1 w
    refine h.trans ?_
    simp [Bool.decide_and, Bool.and_assoc]⟩
theorem eqi_105 (d : Nat) (a0 a1 a2 b0 b1 b2 : Int) (w : World) : (Op.equalIn (d + 2) 105 (.agg #[.int .i64 a0, .int .i64 a1, .int .i64 a2]) (.agg #[.int .i64 b0, .int .i64 b1, .int .i64 b2])).run Try.prog w = .ok (decide (a0 = b0) && (decide (a1 = b1) && (decide (a2 = b2) && true))) w := by
  rw [run_equalIn_struct w (d + 1) 105 _ _ (by kernel_rfl) (by kernel_rfl)]
  have h : (Try.prog.fieldsOf 105).toList.map (fun f => (f.name, f.type, f.offset)) = [("Clear", 3, 0), ("Size", 3, 1), ("Quota", 3, 2)] := by kernel_rfl
  generalize (Try.prog.fieldsOf 105).toList = fs at h
  have hl : fs.length = 3 := by simpa using congrArg List.length h
  match fs, hl, h with
  | [f0, f1, f2], _, h =>
    simp only [List.map_cons, List.map_nil, List.cons.injEq, Prod.mk.injEq, and_true] at h
    obtain ⟨⟨n0, t0, o0⟩, ⟨n1, t1, o1⟩, n2, t2, o2⟩ := h
    exact (eqF_int (t := 3) _ _ _ w _ _ _ _ (by rw [n0]; decide) t0 (by rw [o0]; rfl) (by rw [o0]; rfl) _ (eqF_int (t := 3) _ _ _ w _ _ _ _ (by rw [n1]; decide) t1 (by rw [o1]; rfl) (by rw [o1]; rfl) _ (eqF_int (t := 3) _ _ _ w _ _ _ _ (by rw [n2]; decide) t2 (by rw [o2]; rfl) (by rw [o2]; rfl) _ (eqF_nil _ _ _ _))))
instance : TEqI Try.prog 105 3 := ⟨by kernel_rfl, fun is js hi hj w => by
  match is, js, hi, hj with
  | [a0, a1, a2], [b0, b1, b2], _, _ =>
    have h := eqi_105 (10000 - 2) a0 a1 a2 b0 b1 b2 w
    refine h.trans ?_
    simp [Bool.decide_and, Bool.and_assoc]⟩
theorem eqi_145 (d : Nat) (a0 a1 b0 b1 : Int) (w : World) : (Op.equalIn (d + 2) 145 (.agg #[.int .i64 a0, .int .i64 a1]) (.agg #[.int .i64 b0, .int .i64 b1])).run Try.prog w = .ok (decide (a0 = b0) && (decide (a1 = b1) && true)) w := by
  rw [run_equalIn_struct w (d + 1) 145 _ _ (by kernel_rfl) (by kernel_rfl)]
  have h : (Try.prog.fieldsOf 145).toList.map (fun f => (f.name, f.type, f.offset)) = [("Label", 3, 0), ("At", 3, 1)] := by kernel_rfl
  generalize (Try.prog.fieldsOf 145).toList = fs at h
  have hl : fs.length = 2 := by simpa using congrArg List.length h
  match fs, hl, h with
  | [f0, f1], _, h =>
    simp only [List.map_cons, List.map_nil, List.cons.injEq, Prod.mk.injEq, and_true] at h
    obtain ⟨⟨n0, t0, o0⟩, n1, t1, o1⟩ := h
    exact (eqF_int (t := 3) _ _ _ w _ _ _ _ (by rw [n0]; decide) t0 (by rw [o0]; rfl) (by rw [o0]; rfl) _ (eqF_int (t := 3) _ _ _ w _ _ _ _ (by rw [n1]; decide) t1 (by rw [o1]; rfl) (by rw [o1]; rfl) _ (eqF_nil _ _ _ _)))
instance : TEqI Try.prog 145 2 := ⟨by kernel_rfl, fun is js hi hj w => by
  match is, js, hi, hj with
  | [a0, a1], [b0, b1], _, _ =>
    have h := eqi_145 (10000 - 2) a0 a1 b0 b1 w
    refine h.trans ?_
    simp [Bool.decide_and, Bool.and_assoc]⟩
theorem eqi_208 (d : Nat) (a0 a1 b0 b1 : Int) (w : World) : (Op.equalIn (d + 2) 208 (.agg #[.int .i64 a0, .int .i64 a1]) (.agg #[.int .i64 b0, .int .i64 b1])).run Try.prog w = .ok (decide (a0 = b0) && (decide (a1 = b1) && true)) w := by
  rw [run_equalIn_struct w (d + 1) 208 _ _ (by kernel_rfl) (by kernel_rfl)]
  have h : (Try.prog.fieldsOf 208).toList.map (fun f => (f.name, f.type, f.offset)) = [("Label", 3, 0), ("At", 3, 1)] := by kernel_rfl
  generalize (Try.prog.fieldsOf 208).toList = fs at h
  have hl : fs.length = 2 := by simpa using congrArg List.length h
  match fs, hl, h with
  | [f0, f1], _, h =>
    simp only [List.map_cons, List.map_nil, List.cons.injEq, Prod.mk.injEq, and_true] at h
    obtain ⟨⟨n0, t0, o0⟩, n1, t1, o1⟩ := h
    exact (eqF_int (t := 3) _ _ _ w _ _ _ _ (by rw [n0]; decide) t0 (by rw [o0]; rfl) (by rw [o0]; rfl) _ (eqF_int (t := 3) _ _ _ w _ _ _ _ (by rw [n1]; decide) t1 (by rw [o1]; rfl) (by rw [o1]; rfl) _ (eqF_nil _ _ _ _)))
instance : TEqI Try.prog 208 2 := ⟨by kernel_rfl, fun is js hi hj w => by
  match is, js, hi, hj with
  | [a0, a1], [b0, b1], _, _ =>
    have h := eqi_208 (10000 - 2) a0 a1 b0 b1 w
    refine h.trans ?_
    simp [Bool.decide_and, Bool.and_assoc]⟩
theorem eqi_60 (d : Nat) (a0 a1 a2 a3 a4 b0 b1 b2 b3 b4 : Int) (w : World) : (Op.equalIn (d + 3) 60 (.agg #[.int .i64 a0, .int .i64 a1, .int .i64 a2, .int .i64 a3, .int .i64 a4]) (.agg #[.int .i64 b0, .int .i64 b1, .int .i64 b2, .int .i64 b3, .int .i64 b4])).run Try.prog w = .ok (decide (a0 = b0) && ((decide (a1 = b1) && (decide (a2 = b2) && true)) && ((decide (a3 = b3) && (decide (a4 = b4) && true)) && true))) w := by
  rw [run_equalIn_struct w (d + 2) 60 _ _ (by kernel_rfl) (by kernel_rfl)]
  have h : (Try.prog.fieldsOf 60).toList.map (fun f => (f.name, f.type, f.offset)) = [("Label", 3, 0), ("A", 58, 1), ("B", 58, 3)] := by kernel_rfl
  generalize (Try.prog.fieldsOf 60).toList = fs at h
  have hl : fs.length = 3 := by simpa using congrArg List.length h
  match fs, hl, h with
  | [f0, f1, f2], _, h =>
    simp only [List.map_cons, List.map_nil, List.cons.injEq, Prod.mk.injEq, and_true] at h
    obtain ⟨⟨n0, t0, o0⟩, ⟨n1, t1, o1⟩, n2, t2, o2⟩ := h
    exact (eqF_int (t := 3) _ _ _ w _ _ _ _ (by rw [n0]; decide) t0 (by rw [o0]; rfl) (by rw [o0]; rfl) _ (eqF_agg (t := 58) _ _ _ w _ _ _ (by rw [n1]; decide) t1 (by rw [o1]; exact eqi_58 _ _ _ _ _ w) _ (eqF_agg (t := 58) _ _ _ w _ _ _ (by rw [n2]; decide) t2 (by rw [o2]; exact eqi_58 _ _ _ _ _ w) _ (eqF_nil _ _ _ _))))
instance : TEqI Try.prog 60 5 := ⟨by kernel_rfl, fun is js hi hj w => by
  match is, js, hi, hj with
  | [a0, a1, a2, a3, a4], [b0, b1, b2, b3, b4], _, _ =>
    have h := eqi_60 (10000 - 3) a0 a1 a2 a3 a4 b0 b1 b2 b3 b4 w
    refine h.trans ?_
    simp [Bool.decide_and, Bool.and_assoc]⟩
theorem eqi_64 (d : Nat) (a0 a1 a2 b0 b1 b2 : Int) (w : World) : (Op.equalIn (d + 3) 64 (.agg #[.int .i64 a0, .int .i64 a1, .int .i64 a2]) (.agg #[.int .i64 b0, .int .i64 b1, .int .i64 b2])).run Try.prog w = .ok (decide (a0 = b0) && ((decide (a1 = b1) && (decide (a2 = b2) && true)) && true)) w := by
  rw [run_equalIn_struct w (d + 2) 64 _ _ (by kernel_rfl) (by kernel_rfl)]
  have h : (Try.prog.fieldsOf 64).toList.map (fun f => (f.name, f.type, f.offset)) = [("Kind", 3, 0), ("Node", 58, 1)] := by kernel_rfl
  generalize (Try.prog.fieldsOf 64).toList = fs at h
  have hl : fs.length = 2 := by simpa using congrArg List.length h
  match fs, hl, h with
  | [f0, f1], _, h =>
    simp only [List.map_cons, List.map_nil, List.cons.injEq, Prod.mk.injEq, and_true] at h
    obtain ⟨⟨n0, t0, o0⟩, n1, t1, o1⟩ := h
    exact (eqF_int (t := 3) _ _ _ w _ _ _ _ (by rw [n0]; decide) t0 (by rw [o0]; rfl) (by rw [o0]; rfl) _ (eqF_agg (t := 58) _ _ _ w _ _ _ (by rw [n1]; decide) t1 (by rw [o1]; exact eqi_58 _ _ _ _ _ w) _ (eqF_nil _ _ _ _)))
instance : TEqI Try.prog 64 3 := ⟨by kernel_rfl, fun is js hi hj w => by
  match is, js, hi, hj with
  | [a0, a1, a2], [b0, b1, b2], _, _ =>
    have h := eqi_64 (10000 - 3) a0 a1 a2 b0 b1 b2 w
    refine h.trans ?_
    simp [Bool.decide_and, Bool.and_assoc]⟩
theorem eqi_77 (d : Nat) (a0 a1 a2 b0 b1 b2 : Int) (w : World) : (Op.equalIn (d + 3) 77 (.agg #[.int .i64 a0, .int .i64 a1, .int .i64 a2]) (.agg #[.int .i64 b0, .int .i64 b1, .int .i64 b2])).run Try.prog w = .ok (decide (a0 = b0) && ((decide (a1 = b1) && (decide (a2 = b2) && true)) && true)) w := by
  rw [run_equalIn_struct w (d + 2) 77 _ _ (by kernel_rfl) (by kernel_rfl)]
  have h : (Try.prog.fieldsOf 77).toList.map (fun f => (f.name, f.type, f.offset)) = [("Kind", 3, 0), ("Node", 75, 1)] := by kernel_rfl
  generalize (Try.prog.fieldsOf 77).toList = fs at h
  have hl : fs.length = 2 := by simpa using congrArg List.length h
  match fs, hl, h with
  | [f0, f1], _, h =>
    simp only [List.map_cons, List.map_nil, List.cons.injEq, Prod.mk.injEq, and_true] at h
    obtain ⟨⟨n0, t0, o0⟩, n1, t1, o1⟩ := h
    exact (eqF_int (t := 3) _ _ _ w _ _ _ _ (by rw [n0]; decide) t0 (by rw [o0]; rfl) (by rw [o0]; rfl) _ (eqF_agg (t := 75) _ _ _ w _ _ _ (by rw [n1]; decide) t1 (by rw [o1]; exact eqi_75 _ _ _ _ _ w) _ (eqF_nil _ _ _ _)))
instance : TEqI Try.prog 77 3 := ⟨by kernel_rfl, fun is js hi hj w => by
  match is, js, hi, hj with
  | [a0, a1, a2], [b0, b1, b2], _, _ =>
    have h := eqi_77 (10000 - 3) a0 a1 a2 b0 b1 b2 w
    refine h.trans ?_
    simp [Bool.decide_and, Bool.and_assoc]⟩
theorem eqi_164 (d : Nat) (a0 a1 a2 a3 a4 b0 b1 b2 b3 b4 : Int) (w : World) : (Op.equalIn (d + 3) 164 (.agg #[.int .i64 a0, .int .i64 a1, .int .i64 a2, .int .i64 a3, .int .i64 a4]) (.agg #[.int .i64 b0, .int .i64 b1, .int .i64 b2, .int .i64 b3, .int .i64 b4])).run Try.prog w = .ok (decide (a0 = b0) && ((decide (a1 = b1) && (decide (a2 = b2) && true)) && ((decide (a3 = b3) && (decide (a4 = b4) && true)) && true))) w := by
  rw [run_equalIn_struct w (d + 2) 164 _ _ (by kernel_rfl) (by kernel_rfl)]
  have h : (Try.prog.fieldsOf 164).toList.map (fun f => (f.name, f.type, f.offset)) = [("Label", 3, 0), ("A", 75, 1), ("B", 75, 3)] := by kernel_rfl
  generalize (Try.prog.fieldsOf 164).toList = fs at h
  have hl : fs.length = 3 := by simpa using congrArg List.length h
  match fs, hl, h with
  | [f0, f1, f2], _, h =>
    simp only [List.map_cons, List.map_nil, List.cons.injEq, Prod.mk.injEq, and_true] at h
    obtain ⟨⟨n0, t0, o0⟩, ⟨n1, t1, o1⟩, n2, t2, o2⟩ := h
    exact (eqF_int (t := 3) _ _ _ w _ _ _ _ (by rw [n0]; decide) t0 (by rw [o0]; rfl) (by rw [o0]; rfl) _ (eqF_agg (t := 75) _ _ _ w _ _ _ (by rw [n1]; decide) t1 (by rw [o1]; exact eqi_75 _ _ _ _ _ w) _ (eqF_agg (t := 75) _ _ _ w _ _ _ (by rw [n2]; decide) t2 (by rw [o2]; exact eqi_75 _ _ _ _ _ w) _ (eqF_nil _ _ _ _))))
instance : TEqI Try.prog 164 5 := ⟨by kernel_rfl, fun is js hi hj w => by
  match is, js, hi, hj with
  | [a0, a1, a2, a3, a4], [b0, b1, b2, b3, b4], _, _ =>
    have h := eqi_164 (10000 - 3) a0 a1 a2 a3 a4 b0 b1 b2 b3 b4 w
    refine h.trans ?_
    simp [Bool.decide_and, Bool.and_assoc]⟩
theorem eqi_62 (d : Nat) (a0 a1 a2 a3 a4 a5 a6 a7 b0 b1 b2 b3 b4 b5 b6 b7 : Int) (w : World) : (Op.equalIn (d + 4) 62 (.agg #[.int .i64 a0, .int .i64 a1, .int .i64 a2, .int .i64 a3, .int .i64 a4, .int .i64 a5, .int .i64 a6, .int .i64 a7]) (.agg #[.int .i64 b0, .int .i64 b1, .int .i64 b2, .int .i64 b3, .int .i64 b4, .int .i64 b5, .int .i64 b6, .int .i64 b7])).run Try.prog w = .ok (decide (a0 = b0) && ((decide (a1 = b1) && (decide (a2 = b2) && true)) && ((decide (a3 = b3) && ((decide (a4 = b4) && (decide (a5 = b5) && true)) && ((decide (a6 = b6) && (decide (a7 = b7) && true)) && true))) && true))) w := by
  rw [run_equalIn_struct w (d + 3) 62 _ _ (by kernel_rfl) (by kernel_rfl)]
  have h : (Try.prog.fieldsOf 62).toList.map (fun f => (f.name, f.type, f.offset)) = [("Kind", 3, 0), ("Node", 58, 1), ("Edge", 60, 3)] := by kernel_rfl
  generalize (Try.prog.fieldsOf 62).toList = fs at h
  have hl : fs.length = 3 := by simpa using congrArg List.length h
  match fs, hl, h with
  | [f0, f1, f2], _, h =>
    simp only [List.map_cons, List.map_nil, List.cons.injEq, Prod.mk.injEq, and_true] at h
    obtain ⟨⟨n0, t0, o0⟩, ⟨n1, t1, o1⟩, n2, t2, o2⟩ := h
    exact (eqF_int (t := 3) _ _ _ w _ _ _ _ (by rw [n0]; decide) t0 (by rw [o0]; rfl) (by rw [o0]; rfl) _ (eqF_agg (t := 58) _ _ _ w _ _ _ (by rw [n1]; decide) t1 (by rw [o1]; exact eqi_58 _ _ _ _ _ w) _ (eqF_agg (t := 60) _ _ _ w _ _ _ (by rw [n2]; decide) t2 (by rw [o2]; exact eqi_60 _ _ _ _ _ _ _ _ _ _ _ w) _ (eqF_nil _ _ _ _))))
instance : TEqI Try.prog 62 8 := ⟨by kernel_rfl, fun is js hi hj w => by
  match is, js, hi, hj with
  | [a0, a1, a2, a3, a4, a5, a6, a7], [b0, b1, b2, b3, b4, b5, b6, b7], _, _ =>
    have h := eqi_62 (10000 - 4) a0 a1 a2 a3 a4 a5 a6 a7 b0 b1 b2 b3 b4 b5 b6 b7 w
    refine h.trans ?_
    simp [Bool.decide_and, Bool.and_assoc]⟩
theorem eqi_66 (d : Nat) (a0 a1 a2 a3 a4 a5 a6 a7 a8 a9 a10 a11 a12 b0 b1 b2 b3 b4 b5 b6 b7 b8 b9 b10 b11 b12 : Int) (w : World) : (Op.equalIn (d + 5) 66 (.agg #[.int .i64 a0, .int .i64 a1, .int .i64 a2, .int .i64 a3, .int .i64 a4, .int .i64 a5, .int .i64 a6, .int .i64 a7, .int .i64 a8, .int .i64 a9, .int .i64 a10, .int .i64 a11, .int .i64 a12]) (.agg #[.int .i64 b0, .int .i64 b1, .int .i64 b2, .int .i64 b3, .int .i64 b4, .int .i64 b5, .int .i64 b6, .int .i64 b7, .int .i64 b8, .int .i64 b9, .int .i64 b10, .int .i64 b11, .int .i64 b12])).run Try.prog w = .ok (decide (a0 = b0) && (decide (a1 = b1) && ((decide (a2 = b2) && ((decide (a3 = b3) && (decide (a4 = b4) && true)) && ((decide (a5 = b5) && ((decide (a6 = b6) && (decide (a7 = b7) && true)) && ((decide (a8 = b8) && (decide (a9 = b9) && true)) && true))) && true))) && ((decide (a10 = b10) && ((decide (a11 = b11) && (decide (a12 = b12) && true)) && true)) && true)))) w := by
  rw [run_equalIn_struct w (d + 4) 66 _ _ (by kernel_rfl) (by kernel_rfl)]
  have h : (Try.prog.fieldsOf 66).toList.map (fun f => (f.name, f.type, f.offset)) = [("Kind", 3, 0), ("Who", 3, 1), ("Op", 62, 2), ("Query", 64, 10)] := by kernel_rfl
  generalize (Try.prog.fieldsOf 66).toList = fs at h
  have hl : fs.length = 4 := by simpa using congrArg List.length h
  match fs, hl, h with
  | [f0, f1, f2, f3], _, h =>
    simp only [List.map_cons, List.map_nil, List.cons.injEq, Prod.mk.injEq, and_true] at h
    obtain ⟨⟨n0, t0, o0⟩, ⟨n1, t1, o1⟩, ⟨n2, t2, o2⟩, n3, t3, o3⟩ := h
    exact (eqF_int (t := 3) _ _ _ w _ _ _ _ (by rw [n0]; decide) t0 (by rw [o0]; rfl) (by rw [o0]; rfl) _ (eqF_int (t := 3) _ _ _ w _ _ _ _ (by rw [n1]; decide) t1 (by rw [o1]; rfl) (by rw [o1]; rfl) _ (eqF_agg (t := 62) _ _ _ w _ _ _ (by rw [n2]; decide) t2 (by rw [o2]; exact eqi_62 _ _ _ _ _ _ _ _ _ _ _ _ _ _ _ _ _ w) _ (eqF_agg (t := 64) _ _ _ w _ _ _ (by rw [n3]; decide) t3 (by rw [o3]; exact eqi_64 _ _ _ _ _ _ _ w) _ (eqF_nil _ _ _ _)))))
instance : TEqI Try.prog 66 13 := ⟨by kernel_rfl, fun is js hi hj w => by
  match is, js, hi, hj with
  | [a0, a1, a2, a3, a4, a5, a6, a7, a8, a9, a10, a11, a12], [b0, b1, b2, b3, b4, b5, b6, b7, b8, b9, b10, b11, b12], _, _ =>
    have h := eqi_66 (10000 - 5) a0 a1 a2 a3 a4 a5 a6 a7 a8 a9 a10 a11 a12 b0 b1 b2 b3 b4 b5 b6 b7 b8 b9 b10 b11 b12 w
    refine h.trans ?_
    simp [Bool.decide_and, Bool.and_assoc]⟩
instance : FnOk Try.prog 2 := ⟨⟨_, Try.func2, rfl, beq_eq_false_iff_ne.1 (by kernel_rfl)⟩⟩
instance : FnOk Try.prog 3 := ⟨⟨_, Try.func3, rfl, beq_eq_false_iff_ne.1 (by kernel_rfl)⟩⟩
instance : FnOk Try.prog 4 := ⟨⟨_, Try.func4, rfl, beq_eq_false_iff_ne.1 (by kernel_rfl)⟩⟩
instance : FnOk Try.prog 5 := ⟨⟨_, Try.func5, rfl, beq_eq_false_iff_ne.1 (by kernel_rfl)⟩⟩
instance : FnOk Try.prog 6 := ⟨⟨_, Try.func6, rfl, beq_eq_false_iff_ne.1 (by kernel_rfl)⟩⟩
instance : FnOk Try.prog 7 := ⟨⟨_, Try.func7, rfl, beq_eq_false_iff_ne.1 (by kernel_rfl)⟩⟩
instance : FnOk Try.prog 8 := ⟨⟨_, Try.func8, rfl, beq_eq_false_iff_ne.1 (by kernel_rfl)⟩⟩
instance : FnOk Try.prog 9 := ⟨⟨_, Try.func9, rfl, beq_eq_false_iff_ne.1 (by kernel_rfl)⟩⟩
instance : FnOk Try.prog 10 := ⟨⟨_, Try.func10, rfl, beq_eq_false_iff_ne.1 (by kernel_rfl)⟩⟩
instance : FnOk Try.prog 11 := ⟨⟨_, Try.func11, rfl, beq_eq_false_iff_ne.1 (by kernel_rfl)⟩⟩
instance : FnOk Try.prog 12 := ⟨⟨_, Try.func12, rfl, beq_eq_false_iff_ne.1 (by kernel_rfl)⟩⟩
instance : FnOk Try.prog 13 := ⟨⟨_, Try.func13, rfl, beq_eq_false_iff_ne.1 (by kernel_rfl)⟩⟩
instance : FnOk Try.prog 14 := ⟨⟨_, Try.func14, rfl, beq_eq_false_iff_ne.1 (by kernel_rfl)⟩⟩
instance : FnOk Try.prog 15 := ⟨⟨_, Try.func15, rfl, beq_eq_false_iff_ne.1 (by kernel_rfl)⟩⟩
instance : FnOk Try.prog 16 := ⟨⟨_, Try.func16, rfl, beq_eq_false_iff_ne.1 (by kernel_rfl)⟩⟩
instance : FnOk Try.prog 17 := ⟨⟨_, Try.func17, rfl, beq_eq_false_iff_ne.1 (by kernel_rfl)⟩⟩
instance : FnOk Try.prog 18 := ⟨⟨_, Try.func18, rfl, beq_eq_false_iff_ne.1 (by kernel_rfl)⟩⟩
instance : FnOk Try.prog 19 := ⟨⟨_, Try.func19, rfl, beq_eq_false_iff_ne.1 (by kernel_rfl)⟩⟩
instance : FnOk Try.prog 20 := ⟨⟨_, Try.func20, rfl, beq_eq_false_iff_ne.1 (by kernel_rfl)⟩⟩
instance : FnOk Try.prog 21 := ⟨⟨_, Try.func21, rfl, beq_eq_false_iff_ne.1 (by kernel_rfl)⟩⟩
instance : FnOk Try.prog 22 := ⟨⟨_, Try.func22, rfl, beq_eq_false_iff_ne.1 (by kernel_rfl)⟩⟩
instance : FnOk Try.prog 23 := ⟨⟨_, Try.func23, rfl, beq_eq_false_iff_ne.1 (by kernel_rfl)⟩⟩
instance : FnOk Try.prog 24 := ⟨⟨_, Try.func24, rfl, beq_eq_false_iff_ne.1 (by kernel_rfl)⟩⟩
instance : FnOk Try.prog 25 := ⟨⟨_, Try.func25, rfl, beq_eq_false_iff_ne.1 (by kernel_rfl)⟩⟩
instance : FnOk Try.prog 26 := ⟨⟨_, Try.func26, rfl, beq_eq_false_iff_ne.1 (by kernel_rfl)⟩⟩
instance : FnOk Try.prog 27 := ⟨⟨_, Try.func27, rfl, beq_eq_false_iff_ne.1 (by kernel_rfl)⟩⟩
instance : FnOk Try.prog 28 := ⟨⟨_, Try.func28, rfl, beq_eq_false_iff_ne.1 (by kernel_rfl)⟩⟩
instance : FnOk Try.prog 29 := ⟨⟨_, Try.func29, rfl, beq_eq_false_iff_ne.1 (by kernel_rfl)⟩⟩
instance : FnOk Try.prog 30 := ⟨⟨_, Try.func30, rfl, beq_eq_false_iff_ne.1 (by kernel_rfl)⟩⟩
instance : FnOk Try.prog 31 := ⟨⟨_, Try.func31, rfl, beq_eq_false_iff_ne.1 (by kernel_rfl)⟩⟩
instance : FnOk Try.prog 32 := ⟨⟨_, Try.func32, rfl, beq_eq_false_iff_ne.1 (by kernel_rfl)⟩⟩
instance : FnOk Try.prog 33 := ⟨⟨_, Try.func33, rfl, beq_eq_false_iff_ne.1 (by kernel_rfl)⟩⟩
instance : FnOk Try.prog 34 := ⟨⟨_, Try.func34, rfl, beq_eq_false_iff_ne.1 (by kernel_rfl)⟩⟩
instance : FnOk Try.prog 35 := ⟨⟨_, Try.func35, rfl, beq_eq_false_iff_ne.1 (by kernel_rfl)⟩⟩
instance : FnOk Try.prog 36 := ⟨⟨_, Try.func36, rfl, beq_eq_false_iff_ne.1 (by kernel_rfl)⟩⟩
instance : FnOk Try.prog 37 := ⟨⟨_, Try.func37, rfl, beq_eq_false_iff_ne.1 (by kernel_rfl)⟩⟩
instance : FnOk Try.prog 38 := ⟨⟨_, Try.func38, rfl, beq_eq_false_iff_ne.1 (by kernel_rfl)⟩⟩
instance : FnOk Try.prog 39 := ⟨⟨_, Try.func39, rfl, beq_eq_false_iff_ne.1 (by kernel_rfl)⟩⟩
instance : FnOk Try.prog 40 := ⟨⟨_, Try.func40, rfl, beq_eq_false_iff_ne.1 (by kernel_rfl)⟩⟩
instance : FnOk Try.prog 41 := ⟨⟨_, Try.func41, rfl, beq_eq_false_iff_ne.1 (by kernel_rfl)⟩⟩
instance : FnOk Try.prog 42 := ⟨⟨_, Try.func42, rfl, beq_eq_false_iff_ne.1 (by kernel_rfl)⟩⟩
instance : FnOk Try.prog 43 := ⟨⟨_, Try.func43, rfl, beq_eq_false_iff_ne.1 (by kernel_rfl)⟩⟩
instance : FnOk Try.prog 44 := ⟨⟨_, Try.func44, rfl, beq_eq_false_iff_ne.1 (by kernel_rfl)⟩⟩
instance : FnOk Try.prog 45 := ⟨⟨_, Try.func45, rfl, beq_eq_false_iff_ne.1 (by kernel_rfl)⟩⟩
instance : FnOk Try.prog 46 := ⟨⟨_, Try.func46, rfl, beq_eq_false_iff_ne.1 (by kernel_rfl)⟩⟩
instance : FnOk Try.prog 47 := ⟨⟨_, Try.func47, rfl, beq_eq_false_iff_ne.1 (by kernel_rfl)⟩⟩
instance : FnOk Try.prog 48 := ⟨⟨_, Try.func48, rfl, beq_eq_false_iff_ne.1 (by kernel_rfl)⟩⟩
instance : FnOk Try.prog 49 := ⟨⟨_, Try.func49, rfl, beq_eq_false_iff_ne.1 (by kernel_rfl)⟩⟩
instance : FnOk Try.prog 50 := ⟨⟨_, Try.func50, rfl, beq_eq_false_iff_ne.1 (by kernel_rfl)⟩⟩
instance : FnOk Try.prog 51 := ⟨⟨_, Try.func51, rfl, beq_eq_false_iff_ne.1 (by kernel_rfl)⟩⟩
instance : FnOk Try.prog 52 := ⟨⟨_, Try.func52, rfl, beq_eq_false_iff_ne.1 (by kernel_rfl)⟩⟩
instance : FnOk Try.prog 53 := ⟨⟨_, Try.func53, rfl, beq_eq_false_iff_ne.1 (by kernel_rfl)⟩⟩
instance : FnOk Try.prog 54 := ⟨⟨_, Try.func54, rfl, beq_eq_false_iff_ne.1 (by kernel_rfl)⟩⟩
instance : FnOk Try.prog 55 := ⟨⟨_, Try.func55, rfl, beq_eq_false_iff_ne.1 (by kernel_rfl)⟩⟩
instance : FnOk Try.prog 56 := ⟨⟨_, Try.func56, rfl, beq_eq_false_iff_ne.1 (by kernel_rfl)⟩⟩
instance : FnOk Try.prog 57 := ⟨⟨_, Try.func57, rfl, beq_eq_false_iff_ne.1 (by kernel_rfl)⟩⟩
instance : FnOk Try.prog 58 := ⟨⟨_, Try.func58, rfl, beq_eq_false_iff_ne.1 (by kernel_rfl)⟩⟩
instance : FnOk Try.prog 59 := ⟨⟨_, Try.func59, rfl, beq_eq_false_iff_ne.1 (by kernel_rfl)⟩⟩
instance : FnOk Try.prog 60 := ⟨⟨_, Try.func60, rfl, beq_eq_false_iff_ne.1 (by kernel_rfl)⟩⟩
instance : FnOk Try.prog 61 := ⟨⟨_, Try.func61, rfl, beq_eq_false_iff_ne.1 (by kernel_rfl)⟩⟩
instance : FnOk Try.prog 62 := ⟨⟨_, Try.func62, rfl, beq_eq_false_iff_ne.1 (by kernel_rfl)⟩⟩
instance : FnOk Try.prog 63 := ⟨⟨_, Try.func63, rfl, beq_eq_false_iff_ne.1 (by kernel_rfl)⟩⟩
instance : FnOk Try.prog 64 := ⟨⟨_, Try.func64, rfl, beq_eq_false_iff_ne.1 (by kernel_rfl)⟩⟩
instance : FnOk Try.prog 65 := ⟨⟨_, Try.func65, rfl, beq_eq_false_iff_ne.1 (by kernel_rfl)⟩⟩
instance : FnOk Try.prog 66 := ⟨⟨_, Try.func66, rfl, beq_eq_false_iff_ne.1 (by kernel_rfl)⟩⟩
instance : FnOk Try.prog 67 := ⟨⟨_, Try.func67, rfl, beq_eq_false_iff_ne.1 (by kernel_rfl)⟩⟩
instance : FnOk Try.prog 68 := ⟨⟨_, Try.func68, rfl, beq_eq_false_iff_ne.1 (by kernel_rfl)⟩⟩
instance : FnOk Try.prog 69 := ⟨⟨_, Try.func69, rfl, beq_eq_false_iff_ne.1 (by kernel_rfl)⟩⟩
instance : FnOk Try.prog 70 := ⟨⟨_, Try.func70, rfl, beq_eq_false_iff_ne.1 (by kernel_rfl)⟩⟩
instance : FnOk Try.prog 71 := ⟨⟨_, Try.func71, rfl, beq_eq_false_iff_ne.1 (by kernel_rfl)⟩⟩
instance : FnOk Try.prog 72 := ⟨⟨_, Try.func72, rfl, beq_eq_false_iff_ne.1 (by kernel_rfl)⟩⟩
instance : FnOk Try.prog 73 := ⟨⟨_, Try.func73, rfl, beq_eq_false_iff_ne.1 (by kernel_rfl)⟩⟩
instance : FnOk Try.prog 74 := ⟨⟨_, Try.func74, rfl, beq_eq_false_iff_ne.1 (by kernel_rfl)⟩⟩
instance : FnOk Try.prog 75 := ⟨⟨_, Try.func75, rfl, beq_eq_false_iff_ne.1 (by kernel_rfl)⟩⟩
instance : FnOk Try.prog 76 := ⟨⟨_, Try.func76, rfl, beq_eq_false_iff_ne.1 (by kernel_rfl)⟩⟩
instance : FnOk Try.prog 77 := ⟨⟨_, Try.func77, rfl, beq_eq_false_iff_ne.1 (by kernel_rfl)⟩⟩
instance : FnOk Try.prog 78 := ⟨⟨_, Try.func78, rfl, beq_eq_false_iff_ne.1 (by kernel_rfl)⟩⟩
instance : FnOk Try.prog 79 := ⟨⟨_, Try.func79, rfl, beq_eq_false_iff_ne.1 (by kernel_rfl)⟩⟩
instance : FnOk Try.prog 80 := ⟨⟨_, Try.func80, rfl, beq_eq_false_iff_ne.1 (by kernel_rfl)⟩⟩
instance : FnOk Try.prog 81 := ⟨⟨_, Try.func81, rfl, beq_eq_false_iff_ne.1 (by kernel_rfl)⟩⟩
instance : FnOk Try.prog 82 := ⟨⟨_, Try.func82, rfl, beq_eq_false_iff_ne.1 (by kernel_rfl)⟩⟩
instance : FnOk Try.prog 83 := ⟨⟨_, Try.func83, rfl, beq_eq_false_iff_ne.1 (by kernel_rfl)⟩⟩
instance : FnOk Try.prog 84 := ⟨⟨_, Try.func84, rfl, beq_eq_false_iff_ne.1 (by kernel_rfl)⟩⟩
instance : FnOk Try.prog 85 := ⟨⟨_, Try.func85, rfl, beq_eq_false_iff_ne.1 (by kernel_rfl)⟩⟩
instance : FnOk Try.prog 86 := ⟨⟨_, Try.func86, rfl, beq_eq_false_iff_ne.1 (by kernel_rfl)⟩⟩
instance : FnOk Try.prog 87 := ⟨⟨_, Try.func87, rfl, beq_eq_false_iff_ne.1 (by kernel_rfl)⟩⟩
instance : FnOk Try.prog 88 := ⟨⟨_, Try.func88, rfl, beq_eq_false_iff_ne.1 (by kernel_rfl)⟩⟩
instance : FnOk Try.prog 89 := ⟨⟨_, Try.func89, rfl, beq_eq_false_iff_ne.1 (by kernel_rfl)⟩⟩
instance : FnOk Try.prog 90 := ⟨⟨_, Try.func90, rfl, beq_eq_false_iff_ne.1 (by kernel_rfl)⟩⟩
instance : FnOk Try.prog 91 := ⟨⟨_, Try.func91, rfl, beq_eq_false_iff_ne.1 (by kernel_rfl)⟩⟩
instance : FnOk Try.prog 92 := ⟨⟨_, Try.func92, rfl, beq_eq_false_iff_ne.1 (by kernel_rfl)⟩⟩
instance : FnOk Try.prog 93 := ⟨⟨_, Try.func93, rfl, beq_eq_false_iff_ne.1 (by kernel_rfl)⟩⟩
instance : FnOk Try.prog 94 := ⟨⟨_, Try.func94, rfl, beq_eq_false_iff_ne.1 (by kernel_rfl)⟩⟩
instance : FnOk Try.prog 95 := ⟨⟨_, Try.func95, rfl, beq_eq_false_iff_ne.1 (by kernel_rfl)⟩⟩
instance : FnOk Try.prog 96 := ⟨⟨_, Try.func96, rfl, beq_eq_false_iff_ne.1 (by kernel_rfl)⟩⟩
instance : FnOk Try.prog 97 := ⟨⟨_, Try.func97, rfl, beq_eq_false_iff_ne.1 (by kernel_rfl)⟩⟩
instance : FnOk Try.prog 98 := ⟨⟨_, Try.func98, rfl, beq_eq_false_iff_ne.1 (by kernel_rfl)⟩⟩
instance : FnOk Try.prog 99 := ⟨⟨_, Try.func99, rfl, beq_eq_false_iff_ne.1 (by kernel_rfl)⟩⟩
instance : FnOk Try.prog 100 := ⟨⟨_, Try.func100, rfl, beq_eq_false_iff_ne.1 (by kernel_rfl)⟩⟩
instance : FnOk Try.prog 101 := ⟨⟨_, Try.func101, rfl, beq_eq_false_iff_ne.1 (by kernel_rfl)⟩⟩
instance : FnOk Try.prog 102 := ⟨⟨_, Try.func102, rfl, beq_eq_false_iff_ne.1 (by kernel_rfl)⟩⟩
instance : FnOk Try.prog 103 := ⟨⟨_, Try.func103, rfl, beq_eq_false_iff_ne.1 (by kernel_rfl)⟩⟩
instance : FnOk Try.prog 104 := ⟨⟨_, Try.func104, rfl, beq_eq_false_iff_ne.1 (by kernel_rfl)⟩⟩
instance : FnOk Try.prog 105 := ⟨⟨_, Try.func105, rfl, beq_eq_false_iff_ne.1 (by kernel_rfl)⟩⟩
instance : FnOk Try.prog 106 := ⟨⟨_, Try.func106, rfl, beq_eq_false_iff_ne.1 (by kernel_rfl)⟩⟩
instance : FnOk Try.prog 107 := ⟨⟨_, Try.func107, rfl, beq_eq_false_iff_ne.1 (by kernel_rfl)⟩⟩
instance : FnOk Try.prog 108 := ⟨⟨_, Try.func108, rfl, beq_eq_false_iff_ne.1 (by kernel_rfl)⟩⟩
instance : FnOk Try.prog 109 := ⟨⟨_, Try.func109, rfl, beq_eq_false_iff_ne.1 (by kernel_rfl)⟩⟩
instance : FnOk Try.prog 110 := ⟨⟨_, Try.func110, rfl, beq_eq_false_iff_ne.1 (by kernel_rfl)⟩⟩
instance : FnOk Try.prog 111 := ⟨⟨_, Try.func111, rfl, beq_eq_false_iff_ne.1 (by kernel_rfl)⟩⟩
instance : FnOk Try.prog 112 := ⟨⟨_, Try.func112, rfl, beq_eq_false_iff_ne.1 (by kernel_rfl)⟩⟩
instance : FnOk Try.prog 113 := ⟨⟨_, Try.func113, rfl, beq_eq_false_iff_ne.1 (by kernel_rfl)⟩⟩
instance : FnOk Try.prog 114 := ⟨⟨_, Try.func114, rfl, beq_eq_false_iff_ne.1 (by kernel_rfl)⟩⟩
instance : FnOk Try.prog 115 := ⟨⟨_, Try.func115, rfl, beq_eq_false_iff_ne.1 (by kernel_rfl)⟩⟩
instance : FnOk Try.prog 116 := ⟨⟨_, Try.func116, rfl, beq_eq_false_iff_ne.1 (by kernel_rfl)⟩⟩
instance : FnOk Try.prog 117 := ⟨⟨_, Try.func117, rfl, beq_eq_false_iff_ne.1 (by kernel_rfl)⟩⟩
instance : FnOk Try.prog 118 := ⟨⟨_, Try.func118, rfl, beq_eq_false_iff_ne.1 (by kernel_rfl)⟩⟩
instance : FnOk Try.prog 119 := ⟨⟨_, Try.func119, rfl, beq_eq_false_iff_ne.1 (by kernel_rfl)⟩⟩
instance : FnOk Try.prog 120 := ⟨⟨_, Try.func120, rfl, beq_eq_false_iff_ne.1 (by kernel_rfl)⟩⟩
instance : FnOk Try.prog 121 := ⟨⟨_, Try.func121, rfl, beq_eq_false_iff_ne.1 (by kernel_rfl)⟩⟩
instance : FnOk Try.prog 122 := ⟨⟨_, Try.func122, rfl, beq_eq_false_iff_ne.1 (by kernel_rfl)⟩⟩
instance : FnOk Try.prog 123 := ⟨⟨_, Try.func123, rfl, beq_eq_false_iff_ne.1 (by kernel_rfl)⟩⟩
instance : FnOk Try.prog 124 := ⟨⟨_, Try.func124, rfl, beq_eq_false_iff_ne.1 (by kernel_rfl)⟩⟩
instance : FnOk Try.prog 125 := ⟨⟨_, Try.func125, rfl, beq_eq_false_iff_ne.1 (by kernel_rfl)⟩⟩
instance : FnOk Try.prog 126 := ⟨⟨_, Try.func126, rfl, beq_eq_false_iff_ne.1 (by kernel_rfl)⟩⟩
instance : FnOk Try.prog 127 := ⟨⟨_, Try.func127, rfl, beq_eq_false_iff_ne.1 (by kernel_rfl)⟩⟩
instance : FnOk Try.prog 128 := ⟨⟨_, Try.func128, rfl, beq_eq_false_iff_ne.1 (by kernel_rfl)⟩⟩
instance : FnOk Try.prog 129 := ⟨⟨_, Try.func129, rfl, beq_eq_false_iff_ne.1 (by kernel_rfl)⟩⟩
instance : FnOk Try.prog 130 := ⟨⟨_, Try.func130, rfl, beq_eq_false_iff_ne.1 (by kernel_rfl)⟩⟩
instance : FnOk Try.prog 131 := ⟨⟨_, Try.func131, rfl, beq_eq_false_iff_ne.1 (by kernel_rfl)⟩⟩
instance : FnOk Try.prog 132 := ⟨⟨_, Try.func132, rfl, beq_eq_false_iff_ne.1 (by kernel_rfl)⟩⟩
instance : FnOk Try.prog 133 := ⟨⟨_, Try.func133, rfl, beq_eq_false_iff_ne.1 (by kernel_rfl)⟩⟩
instance : FnOk Try.prog 134 := ⟨⟨_, Try.func134, rfl, beq_eq_false_iff_ne.1 (by kernel_rfl)⟩⟩
instance : FnOk Try.prog 135 := ⟨⟨_, Try.func135, rfl, beq_eq_false_iff_ne.1 (by kernel_rfl)⟩⟩
instance : FnOk Try.prog 136 := ⟨⟨_, Try.func136, rfl, beq_eq_false_iff_ne.1 (by kernel_rfl)⟩⟩
instance : FnOk Try.prog 137 := ⟨⟨_, Try.func137, rfl, beq_eq_false_iff_ne.1 (by kernel_rfl)⟩⟩
instance : FnOk Try.prog 138 := ⟨⟨_, Try.func138, rfl, beq_eq_false_iff_ne.1 (by kernel_rfl)⟩⟩
instance : FnOk Try.prog 139 := ⟨⟨_, Try.func139, rfl, beq_eq_false_iff_ne.1 (by kernel_rfl)⟩⟩
instance : FnOk Try.prog 140 := ⟨⟨_, Try.func140, rfl, beq_eq_false_iff_ne.1 (by kernel_rfl)⟩⟩
instance : FnOk Try.prog 141 := ⟨⟨_, Try.func141, rfl, beq_eq_false_iff_ne.1 (by kernel_rfl)⟩⟩
instance : FnOk Try.prog 142 := ⟨⟨_, Try.func142, rfl, beq_eq_false_iff_ne.1 (by kernel_rfl)⟩⟩
instance : FnOk Try.prog 143 := ⟨⟨_, Try.func143, rfl, beq_eq_false_iff_ne.1 (by kernel_rfl)⟩⟩
instance : FnOk Try.prog 144 := ⟨⟨_, Try.func144, rfl, beq_eq_false_iff_ne.1 (by kernel_rfl)⟩⟩
instance : FnOk Try.prog 145 := ⟨⟨_, Try.func145, rfl, beq_eq_false_iff_ne.1 (by kernel_rfl)⟩⟩
instance : FnOk Try.prog 146 := ⟨⟨_, Try.func146, rfl, beq_eq_false_iff_ne.1 (by kernel_rfl)⟩⟩
instance : FnOk Try.prog 147 := ⟨⟨_, Try.func147, rfl, beq_eq_false_iff_ne.1 (by kernel_rfl)⟩⟩
instance : FnOk Try.prog 148 := ⟨⟨_, Try.func148, rfl, beq_eq_false_iff_ne.1 (by kernel_rfl)⟩⟩
instance : FnOk Try.prog 149 := ⟨⟨_, Try.func149, rfl, beq_eq_false_iff_ne.1 (by kernel_rfl)⟩⟩
instance : FnOk Try.prog 150 := ⟨⟨_, Try.func150, rfl, beq_eq_false_iff_ne.1 (by kernel_rfl)⟩⟩
instance : FnOk Try.prog 151 := ⟨⟨_, Try.func151, rfl, beq_eq_false_iff_ne.1 (by kernel_rfl)⟩⟩
instance : FnOk Try.prog 152 := ⟨⟨_, Try.func152, rfl, beq_eq_false_iff_ne.1 (by kernel_rfl)⟩⟩
instance : FnOk Try.prog 153 := ⟨⟨_, Try.func153, rfl, beq_eq_false_iff_ne.1 (by kernel_rfl)⟩⟩
instance : FnOk Try.prog 154 := ⟨⟨_, Try.func154, rfl, beq_eq_false_iff_ne.1 (by kernel_rfl)⟩⟩
instance : FnOk Try.prog 155 := ⟨⟨_, Try.func155, rfl, beq_eq_false_iff_ne.1 (by kernel_rfl)⟩⟩
instance : FnOk Try.prog 156 := ⟨⟨_, Try.func156, rfl, beq_eq_false_iff_ne.1 (by kernel_rfl)⟩⟩
instance : FnOk Try.prog 157 := ⟨⟨_, Try.func157, rfl, beq_eq_false_iff_ne.1 (by kernel_rfl)⟩⟩
instance : FnOk Try.prog 158 := ⟨⟨_, Try.func158, rfl, beq_eq_false_iff_ne.1 (by kernel_rfl)⟩⟩
instance : FnOk Try.prog 159 := ⟨⟨_, Try.func159, rfl, beq_eq_false_iff_ne.1 (by kernel_rfl)⟩⟩
instance : FnOk Try.prog 160 := ⟨⟨_, Try.func160, rfl, beq_eq_false_iff_ne.1 (by kernel_rfl)⟩⟩
instance : FnOk Try.prog 161 := ⟨⟨_, Try.func161, rfl, beq_eq_false_iff_ne.1 (by kernel_rfl)⟩⟩
instance : FnOk Try.prog 162 := ⟨⟨_, Try.func162, rfl, beq_eq_false_iff_ne.1 (by kernel_rfl)⟩⟩
instance : FnOk Try.prog 163 := ⟨⟨_, Try.func163, rfl, beq_eq_false_iff_ne.1 (by kernel_rfl)⟩⟩
instance : FnOk Try.prog 164 := ⟨⟨_, Try.func164, rfl, beq_eq_false_iff_ne.1 (by kernel_rfl)⟩⟩
instance : FnOk Try.prog 165 := ⟨⟨_, Try.func165, rfl, beq_eq_false_iff_ne.1 (by kernel_rfl)⟩⟩
instance : FnOk Try.prog 166 := ⟨⟨_, Try.func166, rfl, beq_eq_false_iff_ne.1 (by kernel_rfl)⟩⟩
instance : FnOk Try.prog 167 := ⟨⟨_, Try.func167, rfl, beq_eq_false_iff_ne.1 (by kernel_rfl)⟩⟩
instance : FnOk Try.prog 168 := ⟨⟨_, Try.func168, rfl, beq_eq_false_iff_ne.1 (by kernel_rfl)⟩⟩
instance : FnOk Try.prog 169 := ⟨⟨_, Try.func169, rfl, beq_eq_false_iff_ne.1 (by kernel_rfl)⟩⟩
instance : FnOk Try.prog 170 := ⟨⟨_, Try.func170, rfl, beq_eq_false_iff_ne.1 (by kernel_rfl)⟩⟩
instance : FnOk Try.prog 171 := ⟨⟨_, Try.func171, rfl, beq_eq_false_iff_ne.1 (by kernel_rfl)⟩⟩
instance : FnOk Try.prog 172 := ⟨⟨_, Try.func172, rfl, beq_eq_false_iff_ne.1 (by kernel_rfl)⟩⟩
instance : FnOk Try.prog 173 := ⟨⟨_, Try.func173, rfl, beq_eq_false_iff_ne.1 (by kernel_rfl)⟩⟩
instance : FnOk Try.prog 174 := ⟨⟨_, Try.func174, rfl, beq_eq_false_iff_ne.1 (by kernel_rfl)⟩⟩
instance : FnOk Try.prog 175 := ⟨⟨_, Try.func175, rfl, beq_eq_false_iff_ne.1 (by kernel_rfl)⟩⟩
instance : FnOk Try.prog 176 := ⟨⟨_, Try.func176, rfl, beq_eq_false_iff_ne.1 (by kernel_rfl)⟩⟩
instance : FnOk Try.prog 177 := ⟨⟨_, Try.func177, rfl, beq_eq_false_iff_ne.1 (by kernel_rfl)⟩⟩
instance : FnOk Try.prog 178 := ⟨⟨_, Try.func178, rfl, beq_eq_false_iff_ne.1 (by kernel_rfl)⟩⟩
instance : FnOk Try.prog 179 := ⟨⟨_, Try.func179, rfl, beq_eq_false_iff_ne.1 (by kernel_rfl)⟩⟩
instance : FnOk Try.prog 180 := ⟨⟨_, Try.func180, rfl, beq_eq_false_iff_ne.1 (by kernel_rfl)⟩⟩
instance : FnOk Try.prog 181 := ⟨⟨_, Try.func181, rfl, beq_eq_false_iff_ne.1 (by kernel_rfl)⟩⟩
instance : FnOk Try.prog 182 := ⟨⟨_, Try.func182, rfl, beq_eq_false_iff_ne.1 (by kernel_rfl)⟩⟩
instance : FnOk Try.prog 183 := ⟨⟨_, Try.func183, rfl, beq_eq_false_iff_ne.1 (by kernel_rfl)⟩⟩
instance : FnOk Try.prog 184 := ⟨⟨_, Try.func184, rfl, beq_eq_false_iff_ne.1 (by kernel_rfl)⟩⟩
instance : FnOk Try.prog 185 := ⟨⟨_, Try.func185, rfl, beq_eq_false_iff_ne.1 (by kernel_rfl)⟩⟩
instance : FnOk Try.prog 186 := ⟨⟨_, Try.func186, rfl, beq_eq_false_iff_ne.1 (by kernel_rfl)⟩⟩
instance : FnOk Try.prog 187 := ⟨⟨_, Try.func187, rfl, beq_eq_false_iff_ne.1 (by kernel_rfl)⟩⟩
instance : FnOk Try.prog 188 := ⟨⟨_, Try.func188, rfl, beq_eq_false_iff_ne.1 (by kernel_rfl)⟩⟩
instance : FnOk Try.prog 189 := ⟨⟨_, Try.func189, rfl, beq_eq_false_iff_ne.1 (by kernel_rfl)⟩⟩
instance : FnOk Try.prog 190 := ⟨⟨_, Try.func190, rfl, beq_eq_false_iff_ne.1 (by kernel_rfl)⟩⟩
instance : FnOk Try.prog 191 := ⟨⟨_, Try.func191, rfl, beq_eq_false_iff_ne.1 (by kernel_rfl)⟩⟩
instance : FnOk Try.prog 192 := ⟨⟨_, Try.func192, rfl, beq_eq_false_iff_ne.1 (by kernel_rfl)⟩⟩
instance : FnOk Try.prog 193 := ⟨⟨_, Try.func193, rfl, beq_eq_false_iff_ne.1 (by kernel_rfl)⟩⟩
instance : FnOk Try.prog 194 := ⟨⟨_, Try.func194, rfl, beq_eq_false_iff_ne.1 (by kernel_rfl)⟩⟩
instance : FnOk Try.prog 195 := ⟨⟨_, Try.func195, rfl, beq_eq_false_iff_ne.1 (by kernel_rfl)⟩⟩
instance : FnOk Try.prog 196 := ⟨⟨_, Try.func196, rfl, beq_eq_false_iff_ne.1 (by kernel_rfl)⟩⟩
instance : FnOk Try.prog 197 := ⟨⟨_, Try.func197, rfl, beq_eq_false_iff_ne.1 (by kernel_rfl)⟩⟩
instance : FnOk Try.prog 198 := ⟨⟨_, Try.func198, rfl, beq_eq_false_iff_ne.1 (by kernel_rfl)⟩⟩
instance : FnOk Try.prog 199 := ⟨⟨_, Try.func199, rfl, beq_eq_false_iff_ne.1 (by kernel_rfl)⟩⟩
instance : FnOk Try.prog 200 := ⟨⟨_, Try.func200, rfl, beq_eq_false_iff_ne.1 (by kernel_rfl)⟩⟩
instance : FnOk Try.prog 201 := ⟨⟨_, Try.func201, rfl, beq_eq_false_iff_ne.1 (by kernel_rfl)⟩⟩
instance : FnOk Try.prog 202 := ⟨⟨_, Try.func202, rfl, beq_eq_false_iff_ne.1 (by kernel_rfl)⟩⟩
instance : FnOk Try.prog 203 := ⟨⟨_, Try.func203, rfl, beq_eq_false_iff_ne.1 (by kernel_rfl)⟩⟩
instance : FnOk Try.prog 204 := ⟨⟨_, Try.func204, rfl, beq_eq_false_iff_ne.1 (by kernel_rfl)⟩⟩
instance : FnOk Try.prog 205 := ⟨⟨_, Try.func205, rfl, beq_eq_false_iff_ne.1 (by kernel_rfl)⟩⟩
instance : FnOk Try.prog 206 := ⟨⟨_, Try.func206, rfl, beq_eq_false_iff_ne.1 (by kernel_rfl)⟩⟩
instance : FnOk Try.prog 207 := ⟨⟨_, Try.func207, rfl, beq_eq_false_iff_ne.1 (by kernel_rfl)⟩⟩
instance : FnOk Try.prog 208 := ⟨⟨_, Try.func208, rfl, beq_eq_false_iff_ne.1 (by kernel_rfl)⟩⟩
instance : FnOk Try.prog 209 := ⟨⟨_, Try.func209, rfl, beq_eq_false_iff_ne.1 (by kernel_rfl)⟩⟩
instance : FnOk Try.prog 210 := ⟨⟨_, Try.func210, rfl, beq_eq_false_iff_ne.1 (by kernel_rfl)⟩⟩
instance : FnOk Try.prog 211 := ⟨⟨_, Try.func211, rfl, beq_eq_false_iff_ne.1 (by kernel_rfl)⟩⟩
instance : FnOk Try.prog 212 := ⟨⟨_, Try.func212, rfl, beq_eq_false_iff_ne.1 (by kernel_rfl)⟩⟩
instance : FnOk Try.prog 213 := ⟨⟨_, Try.func213, rfl, beq_eq_false_iff_ne.1 (by kernel_rfl)⟩⟩
instance : FnOk Try.prog 214 := ⟨⟨_, Try.func214, rfl, beq_eq_false_iff_ne.1 (by kernel_rfl)⟩⟩
instance : FnOk Try.prog 215 := ⟨⟨_, Try.func215, rfl, beq_eq_false_iff_ne.1 (by kernel_rfl)⟩⟩
instance : FnOk Try.prog 216 := ⟨⟨_, Try.func216, rfl, beq_eq_false_iff_ne.1 (by kernel_rfl)⟩⟩
instance : FnOk Try.prog 217 := ⟨⟨_, Try.func217, rfl, beq_eq_false_iff_ne.1 (by kernel_rfl)⟩⟩
instance : FnOk Try.prog 218 := ⟨⟨_, Try.func218, rfl, beq_eq_false_iff_ne.1 (by kernel_rfl)⟩⟩
instance : FnOk Try.prog 219 := ⟨⟨_, Try.func219, rfl, beq_eq_false_iff_ne.1 (by kernel_rfl)⟩⟩
instance : FnOk Try.prog 220 := ⟨⟨_, Try.func220, rfl, beq_eq_false_iff_ne.1 (by kernel_rfl)⟩⟩
instance : FnOk Try.prog 221 := ⟨⟨_, Try.func221, rfl, beq_eq_false_iff_ne.1 (by kernel_rfl)⟩⟩
end E
end Go.Proofs.Ytmopokamcbcggaa
