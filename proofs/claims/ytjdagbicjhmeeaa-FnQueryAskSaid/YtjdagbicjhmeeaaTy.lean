/- Facts on the types of this program, each by its table (written by a program of this repo: gen_ty.py). -/
import Derived.Test.YtjdagbicjhmeeaaProg
import Derived.Test.YtjdagbicjhmeeaaEngM
namespace Go.Proofs.Ytjdagbicjhmeeaa
namespace E
open Go Go.RowKit
set_option linter.unusedSimpArgs false
set_option linter.unusedVariables false
theorem mixed : Try.prog.follows .mixedOrders = true := by kernel_rfl
instance : TOne Try.prog 3 := ⟨fun _ => by kernel_rfl⟩
instance : TSize Try.prog 3 1 := ⟨fun _ => by kernel_rfl⟩
instance : TInt Try.prog 3 .i64 := ⟨by kernel_rfl⟩
instance : TZero Try.prog 3 [.int .i64 0] := ⟨fun _ => ⟨(.int .i64 0), by kernel_rfl, rfl⟩⟩
theorem row_3 : (Try.prog.info? 3).map (fun i => (i.zero, i.size, i.bytes)) = some (some (.int .i64 0), 1, 8) := by kernel_rfl
instance : TRow Try.prog 3 1 8 := ⟨by obtain ⟨i, h1, h2, h3, h4⟩ := info_parts row_3; exact ⟨i, _, h1, h2, h3, h4, rfl, by decide⟩⟩
instance : TMk Try.prog 3 [.int .i64 0] 8 := ⟨by obtain ⟨i, h1, h2, h3, h4⟩ := info_parts row_3; exact ⟨i, _, h1, h2, h3, h4, rfl⟩⟩
instance : TOne Try.prog 4 := ⟨fun _ => by kernel_rfl⟩
instance : TSize Try.prog 4 1 := ⟨fun _ => by kernel_rfl⟩
instance : TBool Try.prog 4 := ⟨by kernel_rfl⟩
instance : TZero Try.prog 4 [.bool false] := ⟨fun _ => ⟨(.bool false), by kernel_rfl, rfl⟩⟩
theorem row_4 : (Try.prog.info? 4).map (fun i => (i.zero, i.size, i.bytes)) = some (some (.bool false), 1, 1) := by kernel_rfl
instance : TRow Try.prog 4 1 1 := ⟨by obtain ⟨i, h1, h2, h3, h4⟩ := info_parts row_4; exact ⟨i, _, h1, h2, h3, h4, rfl, by decide⟩⟩
instance : TMk Try.prog 4 [.bool false] 1 := ⟨by obtain ⟨i, h1, h2, h3, h4⟩ := info_parts row_4; exact ⟨i, _, h1, h2, h3, h4, rfl⟩⟩
instance : TOne Try.prog 5 := ⟨fun _ => by kernel_rfl⟩
instance : TSize Try.prog 5 1 := ⟨fun _ => by kernel_rfl⟩
instance : TInt Try.prog 5 .u8 := ⟨by kernel_rfl⟩
instance : TZero Try.prog 5 [.int .u8 0] := ⟨fun _ => ⟨(.int .u8 0), by kernel_rfl, rfl⟩⟩
theorem row_5 : (Try.prog.info? 5).map (fun i => (i.zero, i.size, i.bytes)) = some (some (.int .u8 0), 1, 1) := by kernel_rfl
instance : TRow Try.prog 5 1 1 := ⟨by obtain ⟨i, h1, h2, h3, h4⟩ := info_parts row_5; exact ⟨i, _, h1, h2, h3, h4, rfl, by decide⟩⟩
instance : TMk Try.prog 5 [.int .u8 0] 1 := ⟨by obtain ⟨i, h1, h2, h3, h4⟩ := info_parts row_5; exact ⟨i, _, h1, h2, h3, h4, rfl⟩⟩
instance : TOne Try.prog 9 := ⟨fun _ => by kernel_rfl⟩
instance : TSize Try.prog 9 1 := ⟨fun _ => by kernel_rfl⟩
instance : TStr Try.prog 9 := ⟨by kernel_rfl⟩
instance : TOne Try.prog 22 := ⟨fun _ => by kernel_rfl⟩
instance : TSize Try.prog 22 1 := ⟨fun _ => by kernel_rfl⟩
instance : TSlc Try.prog 22 5 := ⟨by kernel_rfl⟩
instance : TOne Try.prog 23 := ⟨fun _ => by kernel_rfl⟩
instance : TSize Try.prog 23 1 := ⟨fun _ => by kernel_rfl⟩
instance : TSlc Try.prog 23 40 := ⟨by kernel_rfl⟩
instance : TOne Try.prog 24 := ⟨fun _ => by kernel_rfl⟩
instance : TSize Try.prog 24 1 := ⟨fun _ => by kernel_rfl⟩
instance : TSlc Try.prog 24 37 := ⟨by kernel_rfl⟩
instance : TAgg Try.prog 29 2 := ⟨fun _ => by kernel_rfl, fun _ => by kernel_rfl⟩
instance : TSize Try.prog 29 2 := ⟨fun _ => by kernel_rfl⟩
instance : TFld Try.prog 29 0 0 := ⟨fun _ _ => by kernel_rfl⟩
instance : TFld Try.prog 29 1 1 := ⟨fun _ _ => by kernel_rfl⟩
instance : TZero Try.prog 29 [.int .i64 0, .int .i64 0] := ⟨fun _ => ⟨(.agg #[.int .i64 0, .int .i64 0]), by kernel_rfl, rfl⟩⟩
theorem row_29 : (Try.prog.info? 29).map (fun i => (i.zero, i.size, i.bytes)) = some (some (.agg #[.int .i64 0, .int .i64 0]), 2, 16) := by kernel_rfl
instance : TRow Try.prog 29 2 16 := ⟨by obtain ⟨i, h1, h2, h3, h4⟩ := info_parts row_29; exact ⟨i, _, h1, h2, h3, h4, rfl, by decide⟩⟩
instance : TMk Try.prog 29 [.int .i64 0, .int .i64 0] 16 := ⟨by obtain ⟨i, h1, h2, h3, h4⟩ := info_parts row_29; exact ⟨i, _, h1, h2, h3, h4, rfl⟩⟩
instance : TAgg Try.prog 31 5 := ⟨fun _ => by kernel_rfl, fun _ => by kernel_rfl⟩
instance : TSize Try.prog 31 5 := ⟨fun _ => by kernel_rfl⟩
instance : TFld Try.prog 31 0 0 := ⟨fun _ _ => by kernel_rfl⟩
instance : TFld Try.prog 31 1 1 := ⟨fun _ _ => by kernel_rfl⟩
instance : TFld Try.prog 31 2 3 := ⟨fun _ _ => by kernel_rfl⟩
instance : TZero Try.prog 31 [.int .i64 0, .int .i64 0, .int .i64 0, .int .i64 0, .int .i64 0] := ⟨fun _ => ⟨(.agg #[.int .i64 0, .int .i64 0, .int .i64 0, .int .i64 0, .int .i64 0]), by kernel_rfl, rfl⟩⟩
theorem row_31 : (Try.prog.info? 31).map (fun i => (i.zero, i.size, i.bytes)) = some (some (.agg #[.int .i64 0, .int .i64 0, .int .i64 0, .int .i64 0, .int .i64 0]), 5, 40) := by kernel_rfl
instance : TRow Try.prog 31 5 40 := ⟨by obtain ⟨i, h1, h2, h3, h4⟩ := info_parts row_31; exact ⟨i, _, h1, h2, h3, h4, rfl, by decide⟩⟩
instance : TMk Try.prog 31 [.int .i64 0, .int .i64 0, .int .i64 0, .int .i64 0, .int .i64 0] 40 := ⟨by obtain ⟨i, h1, h2, h3, h4⟩ := info_parts row_31; exact ⟨i, _, h1, h2, h3, h4, rfl⟩⟩
instance : TAgg Try.prog 33 8 := ⟨fun _ => by kernel_rfl, fun _ => by kernel_rfl⟩
instance : TSize Try.prog 33 8 := ⟨fun _ => by kernel_rfl⟩
instance : TFld Try.prog 33 0 0 := ⟨fun _ _ => by kernel_rfl⟩
instance : TFld Try.prog 33 1 1 := ⟨fun _ _ => by kernel_rfl⟩
instance : TFld Try.prog 33 2 3 := ⟨fun _ _ => by kernel_rfl⟩
instance : TZero Try.prog 33 [.int .i64 0, .int .i64 0, .int .i64 0, .int .i64 0, .int .i64 0, .int .i64 0, .int .i64 0, .int .i64 0] := ⟨fun _ => ⟨(.agg #[.int .i64 0, .int .i64 0, .int .i64 0, .int .i64 0, .int .i64 0, .int .i64 0, .int .i64 0, .int .i64 0]), by kernel_rfl, rfl⟩⟩
instance : TAgg Try.prog 35 3 := ⟨fun _ => by kernel_rfl, fun _ => by kernel_rfl⟩
instance : TSize Try.prog 35 3 := ⟨fun _ => by kernel_rfl⟩
instance : TFld Try.prog 35 0 0 := ⟨fun _ _ => by kernel_rfl⟩
instance : TFld Try.prog 35 1 1 := ⟨fun _ _ => by kernel_rfl⟩
instance : TZero Try.prog 35 [.int .i64 0, .int .i64 0, .int .i64 0] := ⟨fun _ => ⟨(.agg #[.int .i64 0, .int .i64 0, .int .i64 0]), by kernel_rfl, rfl⟩⟩
instance : TAgg Try.prog 37 13 := ⟨fun _ => by kernel_rfl, fun _ => by kernel_rfl⟩
instance : TSize Try.prog 37 13 := ⟨fun _ => by kernel_rfl⟩
instance : TFld Try.prog 37 0 0 := ⟨fun _ _ => by kernel_rfl⟩
instance : TFld Try.prog 37 1 1 := ⟨fun _ _ => by kernel_rfl⟩
instance : TFld Try.prog 37 2 2 := ⟨fun _ _ => by kernel_rfl⟩
instance : TFld Try.prog 37 3 10 := ⟨fun _ _ => by kernel_rfl⟩
instance : TZero Try.prog 37 [.int .i64 0, .int .i64 0, .int .i64 0, .int .i64 0, .int .i64 0, .int .i64 0, .int .i64 0, .int .i64 0, .int .i64 0, .int .i64 0, .int .i64 0, .int .i64 0, .int .i64 0] := ⟨fun _ => ⟨(.agg #[.int .i64 0, .int .i64 0, .int .i64 0, .int .i64 0, .int .i64 0, .int .i64 0, .int .i64 0, .int .i64 0, .int .i64 0, .int .i64 0, .int .i64 0, .int .i64 0, .int .i64 0]), by kernel_rfl, rfl⟩⟩
theorem row_37 : (Try.prog.info? 37).map (fun i => (i.zero, i.size, i.bytes)) = some (some (.agg #[.int .i64 0, .int .i64 0, .int .i64 0, .int .i64 0, .int .i64 0, .int .i64 0, .int .i64 0, .int .i64 0, .int .i64 0, .int .i64 0, .int .i64 0, .int .i64 0, .int .i64 0]), 13, 104) := by kernel_rfl
instance : TRow Try.prog 37 13 104 := ⟨by obtain ⟨i, h1, h2, h3, h4⟩ := info_parts row_37; exact ⟨i, _, h1, h2, h3, h4, rfl, by decide⟩⟩
instance : TMk Try.prog 37 [.int .i64 0, .int .i64 0, .int .i64 0, .int .i64 0, .int .i64 0, .int .i64 0, .int .i64 0, .int .i64 0, .int .i64 0, .int .i64 0, .int .i64 0, .int .i64 0, .int .i64 0] 104 := ⟨by obtain ⟨i, h1, h2, h3, h4⟩ := info_parts row_37; exact ⟨i, _, h1, h2, h3, h4, rfl⟩⟩
instance : TAgg Try.prog 40 3 := ⟨fun _ => by kernel_rfl, fun _ => by kernel_rfl⟩
instance : TSize Try.prog 40 3 := ⟨fun _ => by kernel_rfl⟩
instance : TFld Try.prog 40 0 0 := ⟨fun _ _ => by kernel_rfl⟩
instance : TFld Try.prog 40 1 1 := ⟨fun _ _ => by kernel_rfl⟩
instance : TFld Try.prog 40 2 2 := ⟨fun _ _ => by kernel_rfl⟩
instance : TZero Try.prog 40 [.int .i64 0, .int .i64 0, .int .i64 0] := ⟨fun _ => ⟨(.agg #[.int .i64 0, .int .i64 0, .int .i64 0]), by kernel_rfl, rfl⟩⟩
theorem row_40 : (Try.prog.info? 40).map (fun i => (i.zero, i.size, i.bytes)) = some (some (.agg #[.int .i64 0, .int .i64 0, .int .i64 0]), 3, 24) := by kernel_rfl
instance : TRow Try.prog 40 3 24 := ⟨by obtain ⟨i, h1, h2, h3, h4⟩ := info_parts row_40; exact ⟨i, _, h1, h2, h3, h4, rfl, by decide⟩⟩
instance : TMk Try.prog 40 [.int .i64 0, .int .i64 0, .int .i64 0] 24 := ⟨by obtain ⟨i, h1, h2, h3, h4⟩ := info_parts row_40; exact ⟨i, _, h1, h2, h3, h4, rfl⟩⟩
instance : TOne Try.prog 46 := ⟨fun _ => by kernel_rfl⟩
instance : TSize Try.prog 46 1 := ⟨fun _ => by kernel_rfl⟩
instance : TSlc Try.prog 46 50 := ⟨by kernel_rfl⟩
instance : TOne Try.prog 47 := ⟨fun _ => by kernel_rfl⟩
instance : TSize Try.prog 47 1 := ⟨fun _ => by kernel_rfl⟩
instance : TSlc Try.prog 47 113 := ⟨by kernel_rfl⟩
instance : TAgg Try.prog 49 2 := ⟨fun _ => by kernel_rfl, fun _ => by kernel_rfl⟩
instance : TSize Try.prog 49 2 := ⟨fun _ => by kernel_rfl⟩
instance : TFld Try.prog 49 0 0 := ⟨fun _ _ => by kernel_rfl⟩
instance : TFld Try.prog 49 1 1 := ⟨fun _ _ => by kernel_rfl⟩
instance : TAgg Try.prog 50 2 := ⟨fun _ => by kernel_rfl, fun _ => by kernel_rfl⟩
instance : TSize Try.prog 50 2 := ⟨fun _ => by kernel_rfl⟩
instance : TFld Try.prog 50 0 0 := ⟨fun _ _ => by kernel_rfl⟩
instance : TFld Try.prog 50 1 1 := ⟨fun _ _ => by kernel_rfl⟩
instance : TZero Try.prog 50 [.int .i64 0, .int .i64 0] := ⟨fun _ => ⟨(.agg #[.int .i64 0, .int .i64 0]), by kernel_rfl, rfl⟩⟩
theorem row_50 : (Try.prog.info? 50).map (fun i => (i.zero, i.size, i.bytes)) = some (some (.agg #[.int .i64 0, .int .i64 0]), 2, 16) := by kernel_rfl
instance : TRow Try.prog 50 2 16 := ⟨by obtain ⟨i, h1, h2, h3, h4⟩ := info_parts row_50; exact ⟨i, _, h1, h2, h3, h4, rfl, by decide⟩⟩
instance : TMk Try.prog 50 [.int .i64 0, .int .i64 0] 16 := ⟨by obtain ⟨i, h1, h2, h3, h4⟩ := info_parts row_50; exact ⟨i, _, h1, h2, h3, h4, rfl⟩⟩
instance : TAgg Try.prog 52 3 := ⟨fun _ => by kernel_rfl, fun _ => by kernel_rfl⟩
instance : TSize Try.prog 52 3 := ⟨fun _ => by kernel_rfl⟩
instance : TFld Try.prog 52 0 0 := ⟨fun _ _ => by kernel_rfl⟩
instance : TFld Try.prog 52 1 1 := ⟨fun _ _ => by kernel_rfl⟩
instance : TOne Try.prog 54 := ⟨fun _ => by kernel_rfl⟩
instance : TSize Try.prog 54 1 := ⟨fun _ => by kernel_rfl⟩
instance : TSlc Try.prog 54 3 := ⟨by kernel_rfl⟩
instance : TZero Try.prog 54 [.slice none 0 0] := ⟨fun _ => ⟨(.slice none 0 0), by kernel_rfl, rfl⟩⟩
theorem row_54 : (Try.prog.info? 54).map (fun i => (i.zero, i.size, i.bytes)) = some (some (.slice none 0 0), 1, 24) := by kernel_rfl
instance : TRow Try.prog 54 1 24 := ⟨by obtain ⟨i, h1, h2, h3, h4⟩ := info_parts row_54; exact ⟨i, _, h1, h2, h3, h4, rfl, by decide⟩⟩
instance : TMk Try.prog 54 [.slice none 0 0] 24 := ⟨by obtain ⟨i, h1, h2, h3, h4⟩ := info_parts row_54; exact ⟨i, _, h1, h2, h3, h4, rfl⟩⟩
instance : TOne Try.prog 56 := ⟨fun _ => by kernel_rfl⟩
instance : TSize Try.prog 56 1 := ⟨fun _ => by kernel_rfl⟩
instance : TSlc Try.prog 56 29 := ⟨by kernel_rfl⟩
instance : TOne Try.prog 57 := ⟨fun _ => by kernel_rfl⟩
instance : TSize Try.prog 57 1 := ⟨fun _ => by kernel_rfl⟩
instance : TSlc Try.prog 57 31 := ⟨by kernel_rfl⟩
instance : TAgg Try.prog 59 2 := ⟨fun _ => by kernel_rfl, fun _ => by kernel_rfl⟩
instance : TSize Try.prog 59 2 := ⟨fun _ => by kernel_rfl⟩
instance : TFld Try.prog 59 0 0 := ⟨fun _ _ => by kernel_rfl⟩
instance : TFld Try.prog 59 1 1 := ⟨fun _ _ => by kernel_rfl⟩
instance : TZero Try.prog 59 [.slice none 0 0, .slice none 0 0] := ⟨fun _ => ⟨(.agg #[.slice none 0 0, .slice none 0 0]), by kernel_rfl, rfl⟩⟩
instance : TOne Try.prog 75 := ⟨fun _ => by kernel_rfl⟩
instance : TSize Try.prog 75 1 := ⟨fun _ => by kernel_rfl⟩
instance : TInt Try.prog 75 .u8 := ⟨by kernel_rfl⟩
instance : TOne Try.prog 92 := ⟨fun _ => by kernel_rfl⟩
instance : TSize Try.prog 92 1 := ⟨fun _ => by kernel_rfl⟩
instance : TOne Try.prog 98 := ⟨fun _ => by kernel_rfl⟩
instance : TSize Try.prog 98 1 := ⟨fun _ => by kernel_rfl⟩
instance : TSlc Try.prog 98 54 := ⟨by kernel_rfl⟩
instance : TOne Try.prog 102 := ⟨fun _ => by kernel_rfl⟩
instance : TSize Try.prog 102 1 := ⟨fun _ => by kernel_rfl⟩
instance : TOne Try.prog 108 := ⟨fun _ => by kernel_rfl⟩
instance : TSize Try.prog 108 1 := ⟨fun _ => by kernel_rfl⟩
instance : TSlc Try.prog 108 4 := ⟨by kernel_rfl⟩
instance : TAgg Try.prog 113 5 := ⟨fun _ => by kernel_rfl, fun _ => by kernel_rfl⟩
instance : TSize Try.prog 113 5 := ⟨fun _ => by kernel_rfl⟩
instance : TFld Try.prog 113 0 0 := ⟨fun _ _ => by kernel_rfl⟩
instance : TFld Try.prog 113 1 1 := ⟨fun _ _ => by kernel_rfl⟩
instance : TFld Try.prog 113 2 3 := ⟨fun _ _ => by kernel_rfl⟩
instance : TZero Try.prog 113 [.int .i64 0, .int .i64 0, .int .i64 0, .int .i64 0, .int .i64 0] := ⟨fun _ => ⟨(.agg #[.int .i64 0, .int .i64 0, .int .i64 0, .int .i64 0, .int .i64 0]), by kernel_rfl, rfl⟩⟩
theorem row_113 : (Try.prog.info? 113).map (fun i => (i.zero, i.size, i.bytes)) = some (some (.agg #[.int .i64 0, .int .i64 0, .int .i64 0, .int .i64 0, .int .i64 0]), 5, 40) := by kernel_rfl
instance : TRow Try.prog 113 5 40 := ⟨by obtain ⟨i, h1, h2, h3, h4⟩ := info_parts row_113; exact ⟨i, _, h1, h2, h3, h4, rfl, by decide⟩⟩
instance : TMk Try.prog 113 [.int .i64 0, .int .i64 0, .int .i64 0, .int .i64 0, .int .i64 0] 40 := ⟨by obtain ⟨i, h1, h2, h3, h4⟩ := info_parts row_113; exact ⟨i, _, h1, h2, h3, h4, rfl⟩⟩
instance : TAgg Try.prog 121 2 := ⟨fun _ => by kernel_rfl, fun _ => by kernel_rfl⟩
instance : TSize Try.prog 121 2 := ⟨fun _ => by kernel_rfl⟩
instance : TFld Try.prog 121 0 0 := ⟨fun _ _ => by kernel_rfl⟩
instance : TFld Try.prog 121 1 1 := ⟨fun _ _ => by kernel_rfl⟩
instance : TOne Try.prog 131 := ⟨fun _ => by kernel_rfl⟩
instance : TSize Try.prog 131 1 := ⟨fun _ => by kernel_rfl⟩
instance : TInt Try.prog 131 .u64 := ⟨by kernel_rfl⟩
instance : TAgg Try.prog 136 8 := ⟨fun _ => by kernel_rfl, fun _ => by kernel_rfl⟩
instance : TSize Try.prog 136 8 := ⟨fun _ => by kernel_rfl⟩
instance : TArr Try.prog 136 8 3 := ⟨by kernel_rfl⟩
instance : TZero Try.prog 136 [.int .i64 0, .int .i64 0, .int .i64 0, .int .i64 0, .int .i64 0, .int .i64 0, .int .i64 0, .int .i64 0] := ⟨fun _ => ⟨(.agg #[.int .i64 0, .int .i64 0, .int .i64 0, .int .i64 0, .int .i64 0, .int .i64 0, .int .i64 0, .int .i64 0]), by kernel_rfl, rfl⟩⟩
instance : TOne Try.prog 147 := ⟨fun _ => by kernel_rfl⟩
instance : TSize Try.prog 147 1 := ⟨fun _ => by kernel_rfl⟩
instance : TInt Try.prog 147 .i64 := ⟨by kernel_rfl⟩
instance : TOne Try.prog 154 := ⟨fun _ => by kernel_rfl⟩
instance : TSize Try.prog 154 1 := ⟨fun _ => by kernel_rfl⟩
instance : TInt Try.prog 154 .u32 := ⟨by kernel_rfl⟩
instance : TOne Try.prog 156 := ⟨fun _ => by kernel_rfl⟩
instance : TSize Try.prog 156 1 := ⟨fun _ => by kernel_rfl⟩
instance : TInt Try.prog 156 .u64 := ⟨by kernel_rfl⟩
instance : TOne Try.prog 158 := ⟨fun _ => by kernel_rfl⟩
instance : TSize Try.prog 158 1 := ⟨fun _ => by kernel_rfl⟩
instance : TSlc Try.prog 158 179 := ⟨by kernel_rfl⟩
instance : TAgg Try.prog 160 5 := ⟨fun _ => by kernel_rfl, fun _ => by kernel_rfl⟩
instance : TSize Try.prog 160 5 := ⟨fun _ => by kernel_rfl⟩
instance : TFld Try.prog 160 0 0 := ⟨fun _ _ => by kernel_rfl⟩
instance : TFld Try.prog 160 1 1 := ⟨fun _ _ => by kernel_rfl⟩
instance : TFld Try.prog 160 2 3 := ⟨fun _ _ => by kernel_rfl⟩
instance : TFld Try.prog 160 3 4 := ⟨fun _ _ => by kernel_rfl⟩
instance : TZero Try.prog 160 [.slice none 0 0, .slice none 0 0, .slice none 0 0, .slice none 0 0, .slice none 0 0] := ⟨fun _ => ⟨(.agg #[.slice none 0 0, .slice none 0 0, .slice none 0 0, .slice none 0 0, .slice none 0 0]), by kernel_rfl, rfl⟩⟩
instance : TAgg Try.prog 164 3 := ⟨fun _ => by kernel_rfl, fun _ => by kernel_rfl⟩
instance : TSize Try.prog 164 3 := ⟨fun _ => by kernel_rfl⟩
instance : TFld Try.prog 164 0 0 := ⟨fun _ _ => by kernel_rfl⟩
instance : TFld Try.prog 164 1 1 := ⟨fun _ _ => by kernel_rfl⟩
instance : TFld Try.prog 164 2 2 := ⟨fun _ _ => by kernel_rfl⟩
instance : TZero Try.prog 164 [.int .i64 0, .slice none 0 0, .int .i64 0] := ⟨fun _ => ⟨(.agg #[.int .i64 0, .slice none 0 0, .int .i64 0]), by kernel_rfl, rfl⟩⟩
instance : TOne Try.prog 171 := ⟨fun _ => by kernel_rfl⟩
instance : TSize Try.prog 171 1 := ⟨fun _ => by kernel_rfl⟩
instance : TInt Try.prog 171 .u64 := ⟨by kernel_rfl⟩
instance : TZero Try.prog 171 [.int .u64 0] := ⟨fun _ => ⟨(.int .u64 0), by kernel_rfl, rfl⟩⟩
instance : TOne Try.prog 175 := ⟨fun _ => by kernel_rfl⟩
instance : TSize Try.prog 175 1 := ⟨fun _ => by kernel_rfl⟩
instance : TOne Try.prog 177 := ⟨fun _ => by kernel_rfl⟩
instance : TSize Try.prog 177 1 := ⟨fun _ => by kernel_rfl⟩
instance : TSlc Try.prog 177 192 := ⟨by kernel_rfl⟩
instance : TAgg Try.prog 179 2 := ⟨fun _ => by kernel_rfl, fun _ => by kernel_rfl⟩
instance : TSize Try.prog 179 2 := ⟨fun _ => by kernel_rfl⟩
instance : TFld Try.prog 179 0 0 := ⟨fun _ _ => by kernel_rfl⟩
instance : TFld Try.prog 179 1 1 := ⟨fun _ _ => by kernel_rfl⟩
instance : TZero Try.prog 179 [.int .i64 0, .slice none 0 0] := ⟨fun _ => ⟨(.agg #[.int .i64 0, .slice none 0 0]), by kernel_rfl, rfl⟩⟩
theorem row_179 : (Try.prog.info? 179).map (fun i => (i.zero, i.size, i.bytes)) = some (some (.agg #[.int .i64 0, .slice none 0 0]), 2, 32) := by kernel_rfl
instance : TRow Try.prog 179 2 32 := ⟨by obtain ⟨i, h1, h2, h3, h4⟩ := info_parts row_179; exact ⟨i, _, h1, h2, h3, h4, rfl, by decide⟩⟩
instance : TMk Try.prog 179 [.int .i64 0, .slice none 0 0] 32 := ⟨by obtain ⟨i, h1, h2, h3, h4⟩ := info_parts row_179; exact ⟨i, _, h1, h2, h3, h4, rfl⟩⟩
instance : TOne Try.prog 187 := ⟨fun _ => by kernel_rfl⟩
instance : TSize Try.prog 187 1 := ⟨fun _ => by kernel_rfl⟩
instance : TSlc Try.prog 187 195 := ⟨by kernel_rfl⟩
instance : TAgg Try.prog 192 2 := ⟨fun _ => by kernel_rfl, fun _ => by kernel_rfl⟩
instance : TSize Try.prog 192 2 := ⟨fun _ => by kernel_rfl⟩
instance : TFld Try.prog 192 0 0 := ⟨fun _ _ => by kernel_rfl⟩
instance : TFld Try.prog 192 1 1 := ⟨fun _ _ => by kernel_rfl⟩
instance : TZero Try.prog 192 [.int .i64 0, .int .i64 0] := ⟨fun _ => ⟨(.agg #[.int .i64 0, .int .i64 0]), by kernel_rfl, rfl⟩⟩
theorem row_192 : (Try.prog.info? 192).map (fun i => (i.zero, i.size, i.bytes)) = some (some (.agg #[.int .i64 0, .int .i64 0]), 2, 16) := by kernel_rfl
instance : TRow Try.prog 192 2 16 := ⟨by obtain ⟨i, h1, h2, h3, h4⟩ := info_parts row_192; exact ⟨i, _, h1, h2, h3, h4, rfl, by decide⟩⟩
instance : TMk Try.prog 192 [.int .i64 0, .int .i64 0] 16 := ⟨by obtain ⟨i, h1, h2, h3, h4⟩ := info_parts row_192; exact ⟨i, _, h1, h2, h3, h4, rfl⟩⟩
instance : TAgg Try.prog 195 2 := ⟨fun _ => by kernel_rfl, fun _ => by kernel_rfl⟩
instance : TSize Try.prog 195 2 := ⟨fun _ => by kernel_rfl⟩
instance : TFld Try.prog 195 0 0 := ⟨fun _ _ => by kernel_rfl⟩
instance : TFld Try.prog 195 1 1 := ⟨fun _ _ => by kernel_rfl⟩
instance : TZero Try.prog 195 [.int .i64 0, .string ⟨#[]⟩] := ⟨fun _ => ⟨(.agg #[.int .i64 0, .string ⟨#[]⟩]), by kernel_rfl, rfl⟩⟩
theorem row_195 : (Try.prog.info? 195).map (fun i => (i.zero, i.size, i.bytes)) = some (some (.agg #[.int .i64 0, .string ⟨#[]⟩]), 2, 24) := by kernel_rfl
instance : TRow Try.prog 195 2 24 := ⟨by obtain ⟨i, h1, h2, h3, h4⟩ := info_parts row_195; exact ⟨i, _, h1, h2, h3, h4, rfl, by decide⟩⟩
instance : TMk Try.prog 195 [.int .i64 0, .string ⟨#[]⟩] 24 := ⟨by obtain ⟨i, h1, h2, h3, h4⟩ := info_parts row_195; exact ⟨i, _, h1, h2, h3, h4, rfl⟩⟩
instance : TLay Try.prog 29 [.int .i64 0, .int .i64 0] #[(0, 1), (1, 1)] := ⟨fun _ => ⟨.agg #[.int .i64 0, .int .i64 0], by kernel_rfl, rfl⟩, ⟨Try.prog.fieldsOf 29, by kernel_rfl, fun _ => by kernel_rfl⟩⟩
instance : TLay Try.prog 31 [.int .i64 0, .int .i64 0, .int .i64 0, .int .i64 0, .int .i64 0] #[(0, 1), (1, 2), (3, 2)] := ⟨fun _ => ⟨.agg #[.int .i64 0, .int .i64 0, .int .i64 0, .int .i64 0, .int .i64 0], by kernel_rfl, rfl⟩, ⟨Try.prog.fieldsOf 31, by kernel_rfl, fun _ => by kernel_rfl⟩⟩
instance : TLay Try.prog 33 [.int .i64 0, .int .i64 0, .int .i64 0, .int .i64 0, .int .i64 0, .int .i64 0, .int .i64 0, .int .i64 0] #[(0, 1), (1, 2), (3, 5)] := ⟨fun _ => ⟨.agg #[.int .i64 0, .int .i64 0, .int .i64 0, .int .i64 0, .int .i64 0, .int .i64 0, .int .i64 0, .int .i64 0], by kernel_rfl, rfl⟩, ⟨Try.prog.fieldsOf 33, by kernel_rfl, fun _ => by kernel_rfl⟩⟩
instance : TLay Try.prog 35 [.int .i64 0, .int .i64 0, .int .i64 0] #[(0, 1), (1, 2)] := ⟨fun _ => ⟨.agg #[.int .i64 0, .int .i64 0, .int .i64 0], by kernel_rfl, rfl⟩, ⟨Try.prog.fieldsOf 35, by kernel_rfl, fun _ => by kernel_rfl⟩⟩
instance : TLay Try.prog 37 [.int .i64 0, .int .i64 0, .int .i64 0, .int .i64 0, .int .i64 0, .int .i64 0, .int .i64 0, .int .i64 0, .int .i64 0, .int .i64 0, .int .i64 0, .int .i64 0, .int .i64 0] #[(0, 1), (1, 1), (2, 8), (10, 3)] := ⟨fun _ => ⟨.agg #[.int .i64 0, .int .i64 0, .int .i64 0, .int .i64 0, .int .i64 0, .int .i64 0, .int .i64 0, .int .i64 0, .int .i64 0, .int .i64 0, .int .i64 0, .int .i64 0, .int .i64 0], by kernel_rfl, rfl⟩, ⟨Try.prog.fieldsOf 37, by kernel_rfl, fun _ => by kernel_rfl⟩⟩
instance : TLay Try.prog 40 [.int .i64 0, .int .i64 0, .int .i64 0] #[(0, 1), (1, 1), (2, 1)] := ⟨fun _ => ⟨.agg #[.int .i64 0, .int .i64 0, .int .i64 0], by kernel_rfl, rfl⟩, ⟨Try.prog.fieldsOf 40, by kernel_rfl, fun _ => by kernel_rfl⟩⟩
instance : TLay Try.prog 59 [.slice none 0 0, .slice none 0 0] #[(0, 1), (1, 1)] := ⟨fun _ => ⟨.agg #[.slice none 0 0, .slice none 0 0], by kernel_rfl, rfl⟩, ⟨Try.prog.fieldsOf 59, by kernel_rfl, fun _ => by kernel_rfl⟩⟩
instance : TLay Try.prog 121 [.slice none 0 0, .int .i64 0] #[(0, 1), (1, 1)] := ⟨fun _ => ⟨.agg #[.slice none 0 0, .int .i64 0], by kernel_rfl, rfl⟩, ⟨Try.prog.fieldsOf 121, by kernel_rfl, fun _ => by kernel_rfl⟩⟩
instance : TLay Try.prog 160 [.slice none 0 0, .slice none 0 0, .slice none 0 0, .slice none 0 0, .slice none 0 0] #[(0, 1), (1, 2), (3, 1), (4, 1)] := ⟨fun _ => ⟨.agg #[.slice none 0 0, .slice none 0 0, .slice none 0 0, .slice none 0 0, .slice none 0 0], by kernel_rfl, rfl⟩, ⟨Try.prog.fieldsOf 160, by kernel_rfl, fun _ => by kernel_rfl⟩⟩
instance : TLay Try.prog 164 [.int .i64 0, .slice none 0 0, .int .i64 0] #[(0, 1), (1, 1), (2, 1)] := ⟨fun _ => ⟨.agg #[.int .i64 0, .slice none 0 0, .int .i64 0], by kernel_rfl, rfl⟩, ⟨Try.prog.fieldsOf 164, by kernel_rfl, fun _ => by kernel_rfl⟩⟩
instance : TLay Try.prog 179 [.int .i64 0, .slice none 0 0] #[(0, 1), (1, 1)] := ⟨fun _ => ⟨.agg #[.int .i64 0, .slice none 0 0], by kernel_rfl, rfl⟩, ⟨Try.prog.fieldsOf 179, by kernel_rfl, fun _ => by kernel_rfl⟩⟩
instance : TLay Try.prog 192 [.int .i64 0, .int .i64 0] #[(0, 1), (1, 1)] := ⟨fun _ => ⟨.agg #[.int .i64 0, .int .i64 0], by kernel_rfl, rfl⟩, ⟨Try.prog.fieldsOf 192, by kernel_rfl, fun _ => by kernel_rfl⟩⟩
instance : TLay Try.prog 195 [.int .i64 0, .string ⟨#[]⟩] #[(0, 1), (1, 1)] := ⟨fun _ => ⟨.agg #[.int .i64 0, .string ⟨#[]⟩], by kernel_rfl, rfl⟩, ⟨Try.prog.fieldsOf 195, by kernel_rfl, fun _ => by kernel_rfl⟩⟩
theorem eqi_29 (d : Nat) (a0 a1 b0 b1 : Int) (w : World) : (Op.equalIn (d + 2) 29 (.agg #[.int .i64 a0, .int .i64 a1]) (.agg #[.int .i64 b0, .int .i64 b1])).run Try.prog w = .ok (decide (a0 = b0) && (decide (a1 = b1) && true)) w := by
  rw [run_equalIn_struct w (d + 1) 29 _ _ (by kernel_rfl) (by kernel_rfl)]
  have h : (Try.prog.fieldsOf 29).toList.map (fun f => (f.name, f.type, f.offset)) = [("Label", 3, 0), ("Num", 3, 1)] := by kernel_rfl
  generalize (Try.prog.fieldsOf 29).toList = fs at h
  have hl : fs.length = 2 := by simpa using congrArg List.length h
  match fs, hl, h with
  | [f0, f1], _, h =>
    simp only [List.map_cons, List.map_nil, List.cons.injEq, Prod.mk.injEq, and_true] at h
    obtain ⟨⟨n0, t0, o0⟩, n1, t1, o1⟩ := h
    exact (eqF_int (t := 3) _ _ _ w _ _ _ _ (by rw [n0]; decide) t0 (by rw [o0]; rfl) (by rw [o0]; rfl) _ (eqF_int (t := 3) _ _ _ w _ _ _ _ (by rw [n1]; decide) t1 (by rw [o1]; rfl) (by rw [o1]; rfl) _ (eqF_nil _ _ _ _)))
instance : TEqI Try.prog 29 2 := ⟨by kernel_rfl, fun is js hi hj w => by
  match is, js, hi, hj with
  | [a0, a1], [b0, b1], _, _ =>
    have h := eqi_29 (10000 - 2) a0 a1 b0 b1 w
    refine h.trans ?_
    simp [Bool.decide_and, Bool.and_assoc]⟩
theorem eqi_40 (d : Nat) (a0 a1 a2 b0 b1 b2 : Int) (w : World) : (Op.equalIn (d + 2) 40 (.agg #[.int .i64 a0, .int .i64 a1, .int .i64 a2]) (.agg #[.int .i64 b0, .int .i64 b1, .int .i64 b2])).run Try.prog w = .ok (decide (a0 = b0) && (decide (a1 = b1) && (decide (a2 = b2) && true))) w := by
  rw [run_equalIn_struct w (d + 1) 40 _ _ (by kernel_rfl) (by kernel_rfl)]
  have h : (Try.prog.fieldsOf 40).toList.map (fun f => (f.name, f.type, f.offset)) = [("Clear", 3, 0), ("Size", 3, 1), ("Quota", 3, 2)] := by kernel_rfl
  generalize (Try.prog.fieldsOf 40).toList = fs at h
  have hl : fs.length = 3 := by simpa using congrArg List.length h
  match fs, hl, h with
  | [f0, f1, f2], _, h =>
    simp only [List.map_cons, List.map_nil, List.cons.injEq, Prod.mk.injEq, and_true] at h
    obtain ⟨⟨n0, t0, o0⟩, ⟨n1, t1, o1⟩, n2, t2, o2⟩ := h
    exact (eqF_int (t := 3) _ _ _ w _ _ _ _ (by rw [n0]; decide) t0 (by rw [o0]; rfl) (by rw [o0]; rfl) _ (eqF_int (t := 3) _ _ _ w _ _ _ _ (by rw [n1]; decide) t1 (by rw [o1]; rfl) (by rw [o1]; rfl) _ (eqF_int (t := 3) _ _ _ w _ _ _ _ (by rw [n2]; decide) t2 (by rw [o2]; rfl) (by rw [o2]; rfl) _ (eqF_nil _ _ _ _))))
instance : TEqI Try.prog 40 3 := ⟨by kernel_rfl, fun is js hi hj w => by
  match is, js, hi, hj with
  | [a0, a1, a2], [b0, b1, b2], _, _ =>
    have h := eqi_40 (10000 - 2) a0 a1 a2 b0 b1 b2 w
    refine h.trans ?_
    simp [Bool.decide_and, Bool.and_assoc]⟩
theorem eqi_50 (d : Nat) (a0 a1 b0 b1 : Int) (w : World) : (Op.equalIn (d + 2) 50 (.agg #[.int .i64 a0, .int .i64 a1]) (.agg #[.int .i64 b0, .int .i64 b1])).run Try.prog w = .ok (decide (a0 = b0) && (decide (a1 = b1) && true)) w := by
  rw [run_equalIn_struct w (d + 1) 50 _ _ (by kernel_rfl) (by kernel_rfl)]
  have h : (Try.prog.fieldsOf 50).toList.map (fun f => (f.name, f.type, f.offset)) = [("Label", 3, 0), ("Num", 3, 1)] := by kernel_rfl
  generalize (Try.prog.fieldsOf 50).toList = fs at h
  have hl : fs.length = 2 := by simpa using congrArg List.length h
  match fs, hl, h with
  | [f0, f1], _, h =>
    simp only [List.map_cons, List.map_nil, List.cons.injEq, Prod.mk.injEq, and_true] at h
    obtain ⟨⟨n0, t0, o0⟩, n1, t1, o1⟩ := h
    exact (eqF_int (t := 3) _ _ _ w _ _ _ _ (by rw [n0]; decide) t0 (by rw [o0]; rfl) (by rw [o0]; rfl) _ (eqF_int (t := 3) _ _ _ w _ _ _ _ (by rw [n1]; decide) t1 (by rw [o1]; rfl) (by rw [o1]; rfl) _ (eqF_nil _ _ _ _)))
instance : TEqI Try.prog 50 2 := ⟨by kernel_rfl, fun is js hi hj w => by
  match is, js, hi, hj with
  | [a0, a1], [b0, b1], _, _ =>
    have h := eqi_50 (10000 - 2) a0 a1 b0 b1 w
    refine h.trans ?_
    simp [Bool.decide_and, Bool.and_assoc]⟩
theorem eqi_192 (d : Nat) (a0 a1 b0 b1 : Int) (w : World) : (Op.equalIn (d + 2) 192 (.agg #[.int .i64 a0, .int .i64 a1]) (.agg #[.int .i64 b0, .int .i64 b1])).run Try.prog w = .ok (decide (a0 = b0) && (decide (a1 = b1) && true)) w := by
  rw [run_equalIn_struct w (d + 1) 192 _ _ (by kernel_rfl) (by kernel_rfl)]
  have h : (Try.prog.fieldsOf 192).toList.map (fun f => (f.name, f.type, f.offset)) = [("Label", 3, 0), ("At", 3, 1)] := by kernel_rfl
  generalize (Try.prog.fieldsOf 192).toList = fs at h
  have hl : fs.length = 2 := by simpa using congrArg List.length h
  match fs, hl, h with
  | [f0, f1], _, h =>
    simp only [List.map_cons, List.map_nil, List.cons.injEq, Prod.mk.injEq, and_true] at h
    obtain ⟨⟨n0, t0, o0⟩, n1, t1, o1⟩ := h
    exact (eqF_int (t := 3) _ _ _ w _ _ _ _ (by rw [n0]; decide) t0 (by rw [o0]; rfl) (by rw [o0]; rfl) _ (eqF_int (t := 3) _ _ _ w _ _ _ _ (by rw [n1]; decide) t1 (by rw [o1]; rfl) (by rw [o1]; rfl) _ (eqF_nil _ _ _ _)))
instance : TEqI Try.prog 192 2 := ⟨by kernel_rfl, fun is js hi hj w => by
  match is, js, hi, hj with
  | [a0, a1], [b0, b1], _, _ =>
    have h := eqi_192 (10000 - 2) a0 a1 b0 b1 w
    refine h.trans ?_
    simp [Bool.decide_and, Bool.and_assoc]⟩
theorem eqi_31 (d : Nat) (a0 a1 a2 a3 a4 b0 b1 b2 b3 b4 : Int) (w : World) : (Op.equalIn (d + 3) 31 (.agg #[.int .i64 a0, .int .i64 a1, .int .i64 a2, .int .i64 a3, .int .i64 a4]) (.agg #[.int .i64 b0, .int .i64 b1, .int .i64 b2, .int .i64 b3, .int .i64 b4])).run Try.prog w = .ok (decide (a0 = b0) && ((decide (a1 = b1) && (decide (a2 = b2) && true)) && ((decide (a3 = b3) && (decide (a4 = b4) && true)) && true))) w := by
  rw [run_equalIn_struct w (d + 2) 31 _ _ (by kernel_rfl) (by kernel_rfl)]
  have h : (Try.prog.fieldsOf 31).toList.map (fun f => (f.name, f.type, f.offset)) = [("Label", 3, 0), ("A", 29, 1), ("B", 29, 3)] := by kernel_rfl
  generalize (Try.prog.fieldsOf 31).toList = fs at h
  have hl : fs.length = 3 := by simpa using congrArg List.length h
  match fs, hl, h with
  | [f0, f1, f2], _, h =>
    simp only [List.map_cons, List.map_nil, List.cons.injEq, Prod.mk.injEq, and_true] at h
    obtain ⟨⟨n0, t0, o0⟩, ⟨n1, t1, o1⟩, n2, t2, o2⟩ := h
    exact (eqF_int (t := 3) _ _ _ w _ _ _ _ (by rw [n0]; decide) t0 (by rw [o0]; rfl) (by rw [o0]; rfl) _ (eqF_agg (t := 29) _ _ _ w _ _ _ (by rw [n1]; decide) t1 (by rw [o1]; exact eqi_29 _ _ _ _ _ w) _ (eqF_agg (t := 29) _ _ _ w _ _ _ (by rw [n2]; decide) t2 (by rw [o2]; exact eqi_29 _ _ _ _ _ w) _ (eqF_nil _ _ _ _))))
instance : TEqI Try.prog 31 5 := ⟨by kernel_rfl, fun is js hi hj w => by
  match is, js, hi, hj with
  | [a0, a1, a2, a3, a4], [b0, b1, b2, b3, b4], _, _ =>
    have h := eqi_31 (10000 - 3) a0 a1 a2 a3 a4 b0 b1 b2 b3 b4 w
    refine h.trans ?_
    simp [Bool.decide_and, Bool.and_assoc]⟩
theorem eqi_35 (d : Nat) (a0 a1 a2 b0 b1 b2 : Int) (w : World) : (Op.equalIn (d + 3) 35 (.agg #[.int .i64 a0, .int .i64 a1, .int .i64 a2]) (.agg #[.int .i64 b0, .int .i64 b1, .int .i64 b2])).run Try.prog w = .ok (decide (a0 = b0) && ((decide (a1 = b1) && (decide (a2 = b2) && true)) && true)) w := by
  rw [run_equalIn_struct w (d + 2) 35 _ _ (by kernel_rfl) (by kernel_rfl)]
  have h : (Try.prog.fieldsOf 35).toList.map (fun f => (f.name, f.type, f.offset)) = [("Kind", 3, 0), ("Node", 29, 1)] := by kernel_rfl
  generalize (Try.prog.fieldsOf 35).toList = fs at h
  have hl : fs.length = 2 := by simpa using congrArg List.length h
  match fs, hl, h with
  | [f0, f1], _, h =>
    simp only [List.map_cons, List.map_nil, List.cons.injEq, Prod.mk.injEq, and_true] at h
    obtain ⟨⟨n0, t0, o0⟩, n1, t1, o1⟩ := h
    exact (eqF_int (t := 3) _ _ _ w _ _ _ _ (by rw [n0]; decide) t0 (by rw [o0]; rfl) (by rw [o0]; rfl) _ (eqF_agg (t := 29) _ _ _ w _ _ _ (by rw [n1]; decide) t1 (by rw [o1]; exact eqi_29 _ _ _ _ _ w) _ (eqF_nil _ _ _ _)))
instance : TEqI Try.prog 35 3 := ⟨by kernel_rfl, fun is js hi hj w => by
  match is, js, hi, hj with
  | [a0, a1, a2], [b0, b1, b2], _, _ =>
    have h := eqi_35 (10000 - 3) a0 a1 a2 b0 b1 b2 w
    refine h.trans ?_
    simp [Bool.decide_and, Bool.and_assoc]⟩
theorem eqi_52 (d : Nat) (a0 a1 a2 b0 b1 b2 : Int) (w : World) : (Op.equalIn (d + 3) 52 (.agg #[.int .i64 a0, .int .i64 a1, .int .i64 a2]) (.agg #[.int .i64 b0, .int .i64 b1, .int .i64 b2])).run Try.prog w = .ok (decide (a0 = b0) && ((decide (a1 = b1) && (decide (a2 = b2) && true)) && true)) w := by
  rw [run_equalIn_struct w (d + 2) 52 _ _ (by kernel_rfl) (by kernel_rfl)]
  have h : (Try.prog.fieldsOf 52).toList.map (fun f => (f.name, f.type, f.offset)) = [("Kind", 3, 0), ("Node", 50, 1)] := by kernel_rfl
  generalize (Try.prog.fieldsOf 52).toList = fs at h
  have hl : fs.length = 2 := by simpa using congrArg List.length h
  match fs, hl, h with
  | [f0, f1], _, h =>
    simp only [List.map_cons, List.map_nil, List.cons.injEq, Prod.mk.injEq, and_true] at h
    obtain ⟨⟨n0, t0, o0⟩, n1, t1, o1⟩ := h
    exact (eqF_int (t := 3) _ _ _ w _ _ _ _ (by rw [n0]; decide) t0 (by rw [o0]; rfl) (by rw [o0]; rfl) _ (eqF_agg (t := 50) _ _ _ w _ _ _ (by rw [n1]; decide) t1 (by rw [o1]; exact eqi_50 _ _ _ _ _ w) _ (eqF_nil _ _ _ _)))
instance : TEqI Try.prog 52 3 := ⟨by kernel_rfl, fun is js hi hj w => by
  match is, js, hi, hj with
  | [a0, a1, a2], [b0, b1, b2], _, _ =>
    have h := eqi_52 (10000 - 3) a0 a1 a2 b0 b1 b2 w
    refine h.trans ?_
    simp [Bool.decide_and, Bool.and_assoc]⟩
theorem eqi_113 (d : Nat) (a0 a1 a2 a3 a4 b0 b1 b2 b3 b4 : Int) (w : World) : (Op.equalIn (d + 3) 113 (.agg #[.int .i64 a0, .int .i64 a1, .int .i64 a2, .int .i64 a3, .int .i64 a4]) (.agg #[.int .i64 b0, .int .i64 b1, .int .i64 b2, .int .i64 b3, .int .i64 b4])).run Try.prog w = .ok (decide (a0 = b0) && ((decide (a1 = b1) && (decide (a2 = b2) && true)) && ((decide (a3 = b3) && (decide (a4 = b4) && true)) && true))) w := by
  rw [run_equalIn_struct w (d + 2) 113 _ _ (by kernel_rfl) (by kernel_rfl)]
  have h : (Try.prog.fieldsOf 113).toList.map (fun f => (f.name, f.type, f.offset)) = [("Label", 3, 0), ("A", 50, 1), ("B", 50, 3)] := by kernel_rfl
  generalize (Try.prog.fieldsOf 113).toList = fs at h
  have hl : fs.length = 3 := by simpa using congrArg List.length h
  match fs, hl, h with
  | [f0, f1, f2], _, h =>
    simp only [List.map_cons, List.map_nil, List.cons.injEq, Prod.mk.injEq, and_true] at h
    obtain ⟨⟨n0, t0, o0⟩, ⟨n1, t1, o1⟩, n2, t2, o2⟩ := h
    exact (eqF_int (t := 3) _ _ _ w _ _ _ _ (by rw [n0]; decide) t0 (by rw [o0]; rfl) (by rw [o0]; rfl) _ (eqF_agg (t := 50) _ _ _ w _ _ _ (by rw [n1]; decide) t1 (by rw [o1]; exact eqi_50 _ _ _ _ _ w) _ (eqF_agg (t := 50) _ _ _ w _ _ _ (by rw [n2]; decide) t2 (by rw [o2]; exact eqi_50 _ _ _ _ _ w) _ (eqF_nil _ _ _ _))))
instance : TEqI Try.prog 113 5 := ⟨by kernel_rfl, fun is js hi hj w => by
  match is, js, hi, hj with
  | [a0, a1, a2, a3, a4], [b0, b1, b2, b3, b4], _, _ =>
    have h := eqi_113 (10000 - 3) a0 a1 a2 a3 a4 b0 b1 b2 b3 b4 w
    refine h.trans ?_
    simp [Bool.decide_and, Bool.and_assoc]⟩
theorem eqi_33 (d : Nat) (a0 a1 a2 a3 a4 a5 a6 a7 b0 b1 b2 b3 b4 b5 b6 b7 : Int) (w : World) : (Op.equalIn (d + 4) 33 (.agg #[.int .i64 a0, .int .i64 a1, .int .i64 a2, .int .i64 a3, .int .i64 a4, .int .i64 a5, .int .i64 a6, .int .i64 a7]) (.agg #[.int .i64 b0, .int .i64 b1, .int .i64 b2, .int .i64 b3, .int .i64 b4, .int .i64 b5, .int .i64 b6, .int .i64 b7])).run Try.prog w = .ok (decide (a0 = b0) && ((decide (a1 = b1) && (decide (a2 = b2) && true)) && ((decide (a3 = b3) && ((decide (a4 = b4) && (decide (a5 = b5) && true)) && ((decide (a6 = b6) && (decide (a7 = b7) && true)) && true))) && true))) w := by
  rw [run_equalIn_struct w (d + 3) 33 _ _ (by kernel_rfl) (by kernel_rfl)]
  have h : (Try.prog.fieldsOf 33).toList.map (fun f => (f.name, f.type, f.offset)) = [("Kind", 3, 0), ("Node", 29, 1), ("Edge", 31, 3)] := by kernel_rfl
  generalize (Try.prog.fieldsOf 33).toList = fs at h
  have hl : fs.length = 3 := by simpa using congrArg List.length h
  match fs, hl, h with
  | [f0, f1, f2], _, h =>
    simp only [List.map_cons, List.map_nil, List.cons.injEq, Prod.mk.injEq, and_true] at h
    obtain ⟨⟨n0, t0, o0⟩, ⟨n1, t1, o1⟩, n2, t2, o2⟩ := h
    exact (eqF_int (t := 3) _ _ _ w _ _ _ _ (by rw [n0]; decide) t0 (by rw [o0]; rfl) (by rw [o0]; rfl) _ (eqF_agg (t := 29) _ _ _ w _ _ _ (by rw [n1]; decide) t1 (by rw [o1]; exact eqi_29 _ _ _ _ _ w) _ (eqF_agg (t := 31) _ _ _ w _ _ _ (by rw [n2]; decide) t2 (by rw [o2]; exact eqi_31 _ _ _ _ _ _ _ _ _ _ _ w) _ (eqF_nil _ _ _ _))))
instance : TEqI Try.prog 33 8 := ⟨by kernel_rfl, fun is js hi hj w => by
  match is, js, hi, hj with
  | [a0, a1, a2, a3, a4, a5, a6, a7], [b0, b1, b2, b3, b4, b5, b6, b7], _, _ =>
    have h := eqi_33 (10000 - 4) a0 a1 a2 a3 a4 a5 a6 a7 b0 b1 b2 b3 b4 b5 b6 b7 w
    refine h.trans ?_
    simp [Bool.decide_and, Bool.and_assoc]⟩
theorem eqi_37 (d : Nat) (a0 a1 a2 a3 a4 a5 a6 a7 a8 a9 a10 a11 a12 b0 b1 b2 b3 b4 b5 b6 b7 b8 b9 b10 b11 b12 : Int) (w : World) : (Op.equalIn (d + 5) 37 (.agg #[.int .i64 a0, .int .i64 a1, .int .i64 a2, .int .i64 a3, .int .i64 a4, .int .i64 a5, .int .i64 a6, .int .i64 a7, .int .i64 a8, .int .i64 a9, .int .i64 a10, .int .i64 a11, .int .i64 a12]) (.agg #[.int .i64 b0, .int .i64 b1, .int .i64 b2, .int .i64 b3, .int .i64 b4, .int .i64 b5, .int .i64 b6, .int .i64 b7, .int .i64 b8, .int .i64 b9, .int .i64 b10, .int .i64 b11, .int .i64 b12])).run Try.prog w = .ok (decide (a0 = b0) && (decide (a1 = b1) && ((decide (a2 = b2) && ((decide (a3 = b3) && (decide (a4 = b4) && true)) && ((decide (a5 = b5) && ((decide (a6 = b6) && (decide (a7 = b7) && true)) && ((decide (a8 = b8) && (decide (a9 = b9) && true)) && true))) && true))) && ((decide (a10 = b10) && ((decide (a11 = b11) && (decide (a12 = b12) && true)) && true)) && true)))) w := by
  rw [run_equalIn_struct w (d + 4) 37 _ _ (by kernel_rfl) (by kernel_rfl)]
  have h : (Try.prog.fieldsOf 37).toList.map (fun f => (f.name, f.type, f.offset)) = [("Kind", 3, 0), ("Who", 3, 1), ("Op", 33, 2), ("Query", 35, 10)] := by kernel_rfl
  generalize (Try.prog.fieldsOf 37).toList = fs at h
  have hl : fs.length = 4 := by simpa using congrArg List.length h
  match fs, hl, h with
  | [f0, f1, f2, f3], _, h =>
    simp only [List.map_cons, List.map_nil, List.cons.injEq, Prod.mk.injEq, and_true] at h
    obtain ⟨⟨n0, t0, o0⟩, ⟨n1, t1, o1⟩, ⟨n2, t2, o2⟩, n3, t3, o3⟩ := h
    exact (eqF_int (t := 3) _ _ _ w _ _ _ _ (by rw [n0]; decide) t0 (by rw [o0]; rfl) (by rw [o0]; rfl) _ (eqF_int (t := 3) _ _ _ w _ _ _ _ (by rw [n1]; decide) t1 (by rw [o1]; rfl) (by rw [o1]; rfl) _ (eqF_agg (t := 33) _ _ _ w _ _ _ (by rw [n2]; decide) t2 (by rw [o2]; exact eqi_33 _ _ _ _ _ _ _ _ _ _ _ _ _ _ _ _ _ w) _ (eqF_agg (t := 35) _ _ _ w _ _ _ (by rw [n3]; decide) t3 (by rw [o3]; exact eqi_35 _ _ _ _ _ _ _ w) _ (eqF_nil _ _ _ _)))))
instance : TEqI Try.prog 37 13 := ⟨by kernel_rfl, fun is js hi hj w => by
  match is, js, hi, hj with
  | [a0, a1, a2, a3, a4, a5, a6, a7, a8, a9, a10, a11, a12], [b0, b1, b2, b3, b4, b5, b6, b7, b8, b9, b10, b11, b12], _, _ =>
    have h := eqi_37 (10000 - 5) a0 a1 a2 a3 a4 a5 a6 a7 a8 a9 a10 a11 a12 b0 b1 b2 b3 b4 b5 b6 b7 b8 b9 b10 b11 b12 w
    refine h.trans ?_
    simp [Bool.decide_and, Bool.and_assoc]⟩
instance : FnOk Try.prog 2 := ⟨⟨_, Try.func2, rfl, beq_eq_false_iff_ne.1 (by kernel_rfl)⟩⟩
instance : FnOk Try.prog 3 := ⟨⟨_, Try.func3, rfl, beq_eq_false_iff_ne.1 (by kernel_rfl)⟩⟩
instance : FnOk Try.prog 4 := ⟨⟨_, Try.func4, rfl, beq_eq_false_iff_ne.1 (by kernel_rfl)⟩⟩
instance : FnOk Try.prog 5 := ⟨⟨_, Try.func5, rfl, beq_eq_false_iff_ne.1 (by kernel_rfl)⟩⟩
instance : FnOk Try.prog 6 := ⟨⟨_, Try.func6, rfl, beq_eq_false_iff_ne.1 (by kernel_rfl)⟩⟩
instance : FnOk Try.prog 7 := ⟨⟨_, Try.func7, rfl, beq_eq_false_iff_ne.1 (by kernel_rfl)⟩⟩
instance : FnOk Try.prog 8 := ⟨⟨_, Try.func8, rfl, beq_eq_false_iff_ne.1 (by kernel_rfl)⟩⟩
instance : FnOk Try.prog 9 := ⟨⟨_, Try.func9, rfl, beq_eq_false_iff_ne.1 (by kernel_rfl)⟩⟩
instance : FnOk Try.prog 10 := ⟨⟨_, Try.func10, rfl, beq_eq_false_iff_ne.1 (by kernel_rfl)⟩⟩
instance : FnOk Try.prog 11 := ⟨⟨_, Try.func11, rfl, beq_eq_false_iff_ne.1 (by kernel_rfl)⟩⟩
instance : FnOk Try.prog 12 := ⟨⟨_, Try.func12, rfl, beq_eq_false_iff_ne.1 (by kernel_rfl)⟩⟩
instance : FnOk Try.prog 13 := ⟨⟨_, Try.func13, rfl, beq_eq_false_iff_ne.1 (by kernel_rfl)⟩⟩
instance : FnOk Try.prog 14 := ⟨⟨_, Try.func14, rfl, beq_eq_false_iff_ne.1 (by kernel_rfl)⟩⟩
instance : FnOk Try.prog 15 := ⟨⟨_, Try.func15, rfl, beq_eq_false_iff_ne.1 (by kernel_rfl)⟩⟩
instance : FnOk Try.prog 16 := ⟨⟨_, Try.func16, rfl, beq_eq_false_iff_ne.1 (by kernel_rfl)⟩⟩
instance : FnOk Try.prog 17 := ⟨⟨_, Try.func17, rfl, beq_eq_false_iff_ne.1 (by kernel_rfl)⟩⟩
instance : FnOk Try.prog 18 := ⟨⟨_, Try.func18, rfl, beq_eq_false_iff_ne.1 (by kernel_rfl)⟩⟩
instance : FnOk Try.prog 19 := ⟨⟨_, Try.func19, rfl, beq_eq_false_iff_ne.1 (by kernel_rfl)⟩⟩
instance : FnOk Try.prog 20 := ⟨⟨_, Try.func20, rfl, beq_eq_false_iff_ne.1 (by kernel_rfl)⟩⟩
instance : FnOk Try.prog 21 := ⟨⟨_, Try.func21, rfl, beq_eq_false_iff_ne.1 (by kernel_rfl)⟩⟩
instance : FnOk Try.prog 22 := ⟨⟨_, Try.func22, rfl, beq_eq_false_iff_ne.1 (by kernel_rfl)⟩⟩
instance : FnOk Try.prog 23 := ⟨⟨_, Try.func23, rfl, beq_eq_false_iff_ne.1 (by kernel_rfl)⟩⟩
instance : FnOk Try.prog 24 := ⟨⟨_, Try.func24, rfl, beq_eq_false_iff_ne.1 (by kernel_rfl)⟩⟩
instance : FnOk Try.prog 25 := ⟨⟨_, Try.func25, rfl, beq_eq_false_iff_ne.1 (by kernel_rfl)⟩⟩
instance : FnOk Try.prog 26 := ⟨⟨_, Try.func26, rfl, beq_eq_false_iff_ne.1 (by kernel_rfl)⟩⟩
instance : FnOk Try.prog 27 := ⟨⟨_, Try.func27, rfl, beq_eq_false_iff_ne.1 (by kernel_rfl)⟩⟩
instance : FnOk Try.prog 28 := ⟨⟨_, Try.func28, rfl, beq_eq_false_iff_ne.1 (by kernel_rfl)⟩⟩
instance : FnOk Try.prog 29 := ⟨⟨_, Try.func29, rfl, beq_eq_false_iff_ne.1 (by kernel_rfl)⟩⟩
instance : FnOk Try.prog 30 := ⟨⟨_, Try.func30, rfl, beq_eq_false_iff_ne.1 (by kernel_rfl)⟩⟩
instance : FnOk Try.prog 31 := ⟨⟨_, Try.func31, rfl, beq_eq_false_iff_ne.1 (by kernel_rfl)⟩⟩
instance : FnOk Try.prog 32 := ⟨⟨_, Try.func32, rfl, beq_eq_false_iff_ne.1 (by kernel_rfl)⟩⟩
instance : FnOk Try.prog 33 := ⟨⟨_, Try.func33, rfl, beq_eq_false_iff_ne.1 (by kernel_rfl)⟩⟩
instance : FnOk Try.prog 34 := ⟨⟨_, Try.func34, rfl, beq_eq_false_iff_ne.1 (by kernel_rfl)⟩⟩
instance : FnOk Try.prog 35 := ⟨⟨_, Try.func35, rfl, beq_eq_false_iff_ne.1 (by kernel_rfl)⟩⟩
instance : FnOk Try.prog 36 := ⟨⟨_, Try.func36, rfl, beq_eq_false_iff_ne.1 (by kernel_rfl)⟩⟩
instance : FnOk Try.prog 37 := ⟨⟨_, Try.func37, rfl, beq_eq_false_iff_ne.1 (by kernel_rfl)⟩⟩
instance : FnOk Try.prog 38 := ⟨⟨_, Try.func38, rfl, beq_eq_false_iff_ne.1 (by kernel_rfl)⟩⟩
instance : FnOk Try.prog 39 := ⟨⟨_, Try.func39, rfl, beq_eq_false_iff_ne.1 (by kernel_rfl)⟩⟩
instance : FnOk Try.prog 40 := ⟨⟨_, Try.func40, rfl, beq_eq_false_iff_ne.1 (by kernel_rfl)⟩⟩
instance : FnOk Try.prog 41 := ⟨⟨_, Try.func41, rfl, beq_eq_false_iff_ne.1 (by kernel_rfl)⟩⟩
instance : FnOk Try.prog 42 := ⟨⟨_, Try.func42, rfl, beq_eq_false_iff_ne.1 (by kernel_rfl)⟩⟩
instance : FnOk Try.prog 43 := ⟨⟨_, Try.func43, rfl, beq_eq_false_iff_ne.1 (by kernel_rfl)⟩⟩
instance : FnOk Try.prog 44 := ⟨⟨_, Try.func44, rfl, beq_eq_false_iff_ne.1 (by kernel_rfl)⟩⟩
instance : FnOk Try.prog 45 := ⟨⟨_, Try.func45, rfl, beq_eq_false_iff_ne.1 (by kernel_rfl)⟩⟩
instance : FnOk Try.prog 46 := ⟨⟨_, Try.func46, rfl, beq_eq_false_iff_ne.1 (by kernel_rfl)⟩⟩
instance : FnOk Try.prog 47 := ⟨⟨_, Try.func47, rfl, beq_eq_false_iff_ne.1 (by kernel_rfl)⟩⟩
instance : FnOk Try.prog 48 := ⟨⟨_, Try.func48, rfl, beq_eq_false_iff_ne.1 (by kernel_rfl)⟩⟩
instance : FnOk Try.prog 49 := ⟨⟨_, Try.func49, rfl, beq_eq_false_iff_ne.1 (by kernel_rfl)⟩⟩
instance : FnOk Try.prog 50 := ⟨⟨_, Try.func50, rfl, beq_eq_false_iff_ne.1 (by kernel_rfl)⟩⟩
instance : FnOk Try.prog 51 := ⟨⟨_, Try.func51, rfl, beq_eq_false_iff_ne.1 (by kernel_rfl)⟩⟩
instance : FnOk Try.prog 52 := ⟨⟨_, Try.func52, rfl, beq_eq_false_iff_ne.1 (by kernel_rfl)⟩⟩
instance : FnOk Try.prog 53 := ⟨⟨_, Try.func53, rfl, beq_eq_false_iff_ne.1 (by kernel_rfl)⟩⟩
instance : FnOk Try.prog 54 := ⟨⟨_, Try.func54, rfl, beq_eq_false_iff_ne.1 (by kernel_rfl)⟩⟩
instance : FnOk Try.prog 55 := ⟨⟨_, Try.func55, rfl, beq_eq_false_iff_ne.1 (by kernel_rfl)⟩⟩
instance : FnOk Try.prog 56 := ⟨⟨_, Try.func56, rfl, beq_eq_false_iff_ne.1 (by kernel_rfl)⟩⟩
instance : FnOk Try.prog 57 := ⟨⟨_, Try.func57, rfl, beq_eq_false_iff_ne.1 (by kernel_rfl)⟩⟩
instance : FnOk Try.prog 58 := ⟨⟨_, Try.func58, rfl, beq_eq_false_iff_ne.1 (by kernel_rfl)⟩⟩
instance : FnOk Try.prog 59 := ⟨⟨_, Try.func59, rfl, beq_eq_false_iff_ne.1 (by kernel_rfl)⟩⟩
instance : FnOk Try.prog 60 := ⟨⟨_, Try.func60, rfl, beq_eq_false_iff_ne.1 (by kernel_rfl)⟩⟩
instance : FnOk Try.prog 61 := ⟨⟨_, Try.func61, rfl, beq_eq_false_iff_ne.1 (by kernel_rfl)⟩⟩
instance : FnOk Try.prog 62 := ⟨⟨_, Try.func62, rfl, beq_eq_false_iff_ne.1 (by kernel_rfl)⟩⟩
instance : FnOk Try.prog 63 := ⟨⟨_, Try.func63, rfl, beq_eq_false_iff_ne.1 (by kernel_rfl)⟩⟩
instance : FnOk Try.prog 64 := ⟨⟨_, Try.func64, rfl, beq_eq_false_iff_ne.1 (by kernel_rfl)⟩⟩
instance : FnOk Try.prog 65 := ⟨⟨_, Try.func65, rfl, beq_eq_false_iff_ne.1 (by kernel_rfl)⟩⟩
instance : FnOk Try.prog 66 := ⟨⟨_, Try.func66, rfl, beq_eq_false_iff_ne.1 (by kernel_rfl)⟩⟩
instance : FnOk Try.prog 67 := ⟨⟨_, Try.func67, rfl, beq_eq_false_iff_ne.1 (by kernel_rfl)⟩⟩
instance : FnOk Try.prog 68 := ⟨⟨_, Try.func68, rfl, beq_eq_false_iff_ne.1 (by kernel_rfl)⟩⟩
instance : FnOk Try.prog 69 := ⟨⟨_, Try.func69, rfl, beq_eq_false_iff_ne.1 (by kernel_rfl)⟩⟩
instance : FnOk Try.prog 70 := ⟨⟨_, Try.func70, rfl, beq_eq_false_iff_ne.1 (by kernel_rfl)⟩⟩
instance : FnOk Try.prog 71 := ⟨⟨_, Try.func71, rfl, beq_eq_false_iff_ne.1 (by kernel_rfl)⟩⟩
instance : FnOk Try.prog 72 := ⟨⟨_, Try.func72, rfl, beq_eq_false_iff_ne.1 (by kernel_rfl)⟩⟩
instance : FnOk Try.prog 73 := ⟨⟨_, Try.func73, rfl, beq_eq_false_iff_ne.1 (by kernel_rfl)⟩⟩
instance : FnOk Try.prog 74 := ⟨⟨_, Try.func74, rfl, beq_eq_false_iff_ne.1 (by kernel_rfl)⟩⟩
instance : FnOk Try.prog 75 := ⟨⟨_, Try.func75, rfl, beq_eq_false_iff_ne.1 (by kernel_rfl)⟩⟩
instance : FnOk Try.prog 76 := ⟨⟨_, Try.func76, rfl, beq_eq_false_iff_ne.1 (by kernel_rfl)⟩⟩
instance : FnOk Try.prog 77 := ⟨⟨_, Try.func77, rfl, beq_eq_false_iff_ne.1 (by kernel_rfl)⟩⟩
instance : FnOk Try.prog 78 := ⟨⟨_, Try.func78, rfl, beq_eq_false_iff_ne.1 (by kernel_rfl)⟩⟩
instance : FnOk Try.prog 79 := ⟨⟨_, Try.func79, rfl, beq_eq_false_iff_ne.1 (by kernel_rfl)⟩⟩
instance : FnOk Try.prog 80 := ⟨⟨_, Try.func80, rfl, beq_eq_false_iff_ne.1 (by kernel_rfl)⟩⟩
instance : FnOk Try.prog 81 := ⟨⟨_, Try.func81, rfl, beq_eq_false_iff_ne.1 (by kernel_rfl)⟩⟩
instance : FnOk Try.prog 82 := ⟨⟨_, Try.func82, rfl, beq_eq_false_iff_ne.1 (by kernel_rfl)⟩⟩
instance : FnOk Try.prog 83 := ⟨⟨_, Try.func83, rfl, beq_eq_false_iff_ne.1 (by kernel_rfl)⟩⟩
instance : FnOk Try.prog 84 := ⟨⟨_, Try.func84, rfl, beq_eq_false_iff_ne.1 (by kernel_rfl)⟩⟩
instance : FnOk Try.prog 85 := ⟨⟨_, Try.func85, rfl, beq_eq_false_iff_ne.1 (by kernel_rfl)⟩⟩
instance : FnOk Try.prog 86 := ⟨⟨_, Try.func86, rfl, beq_eq_false_iff_ne.1 (by kernel_rfl)⟩⟩
instance : FnOk Try.prog 87 := ⟨⟨_, Try.func87, rfl, beq_eq_false_iff_ne.1 (by kernel_rfl)⟩⟩
instance : FnOk Try.prog 88 := ⟨⟨_, Try.func88, rfl, beq_eq_false_iff_ne.1 (by kernel_rfl)⟩⟩
instance : FnOk Try.prog 89 := ⟨⟨_, Try.func89, rfl, beq_eq_false_iff_ne.1 (by kernel_rfl)⟩⟩
instance : FnOk Try.prog 90 := ⟨⟨_, Try.func90, rfl, beq_eq_false_iff_ne.1 (by kernel_rfl)⟩⟩
instance : FnOk Try.prog 91 := ⟨⟨_, Try.func91, rfl, beq_eq_false_iff_ne.1 (by kernel_rfl)⟩⟩
instance : FnOk Try.prog 92 := ⟨⟨_, Try.func92, rfl, beq_eq_false_iff_ne.1 (by kernel_rfl)⟩⟩
instance : FnOk Try.prog 93 := ⟨⟨_, Try.func93, rfl, beq_eq_false_iff_ne.1 (by kernel_rfl)⟩⟩
instance : FnOk Try.prog 94 := ⟨⟨_, Try.func94, rfl, beq_eq_false_iff_ne.1 (by kernel_rfl)⟩⟩
instance : FnOk Try.prog 95 := ⟨⟨_, Try.func95, rfl, beq_eq_false_iff_ne.1 (by kernel_rfl)⟩⟩
instance : FnOk Try.prog 96 := ⟨⟨_, Try.func96, rfl, beq_eq_false_iff_ne.1 (by kernel_rfl)⟩⟩
instance : FnOk Try.prog 97 := ⟨⟨_, Try.func97, rfl, beq_eq_false_iff_ne.1 (by kernel_rfl)⟩⟩
instance : FnOk Try.prog 98 := ⟨⟨_, Try.func98, rfl, beq_eq_false_iff_ne.1 (by kernel_rfl)⟩⟩
instance : FnOk Try.prog 99 := ⟨⟨_, Try.func99, rfl, beq_eq_false_iff_ne.1 (by kernel_rfl)⟩⟩
instance : FnOk Try.prog 100 := ⟨⟨_, Try.func100, rfl, beq_eq_false_iff_ne.1 (by kernel_rfl)⟩⟩
instance : FnOk Try.prog 101 := ⟨⟨_, Try.func101, rfl, beq_eq_false_iff_ne.1 (by kernel_rfl)⟩⟩
instance : FnOk Try.prog 102 := ⟨⟨_, Try.func102, rfl, beq_eq_false_iff_ne.1 (by kernel_rfl)⟩⟩
instance : FnOk Try.prog 103 := ⟨⟨_, Try.func103, rfl, beq_eq_false_iff_ne.1 (by kernel_rfl)⟩⟩
instance : FnOk Try.prog 104 := ⟨⟨_, Try.func104, rfl, beq_eq_false_iff_ne.1 (by kernel_rfl)⟩⟩
instance : FnOk Try.prog 105 := ⟨⟨_, Try.func105, rfl, beq_eq_false_iff_ne.1 (by kernel_rfl)⟩⟩
instance : FnOk Try.prog 106 := ⟨⟨_, Try.func106, rfl, beq_eq_false_iff_ne.1 (by kernel_rfl)⟩⟩
instance : FnOk Try.prog 107 := ⟨⟨_, Try.func107, rfl, beq_eq_false_iff_ne.1 (by kernel_rfl)⟩⟩
instance : FnOk Try.prog 108 := ⟨⟨_, Try.func108, rfl, beq_eq_false_iff_ne.1 (by kernel_rfl)⟩⟩
instance : FnOk Try.prog 109 := ⟨⟨_, Try.func109, rfl, beq_eq_false_iff_ne.1 (by kernel_rfl)⟩⟩
instance : FnOk Try.prog 110 := ⟨⟨_, Try.func110, rfl, beq_eq_false_iff_ne.1 (by kernel_rfl)⟩⟩
instance : FnOk Try.prog 111 := ⟨⟨_, Try.func111, rfl, beq_eq_false_iff_ne.1 (by kernel_rfl)⟩⟩
instance : FnOk Try.prog 112 := ⟨⟨_, Try.func112, rfl, beq_eq_false_iff_ne.1 (by kernel_rfl)⟩⟩
instance : FnOk Try.prog 113 := ⟨⟨_, Try.func113, rfl, beq_eq_false_iff_ne.1 (by kernel_rfl)⟩⟩
instance : FnOk Try.prog 114 := ⟨⟨_, Try.func114, rfl, beq_eq_false_iff_ne.1 (by kernel_rfl)⟩⟩
instance : FnOk Try.prog 115 := ⟨⟨_, Try.func115, rfl, beq_eq_false_iff_ne.1 (by kernel_rfl)⟩⟩
instance : FnOk Try.prog 116 := ⟨⟨_, Try.func116, rfl, beq_eq_false_iff_ne.1 (by kernel_rfl)⟩⟩
instance : FnOk Try.prog 117 := ⟨⟨_, Try.func117, rfl, beq_eq_false_iff_ne.1 (by kernel_rfl)⟩⟩
instance : FnOk Try.prog 118 := ⟨⟨_, Try.func118, rfl, beq_eq_false_iff_ne.1 (by kernel_rfl)⟩⟩
instance : FnOk Try.prog 119 := ⟨⟨_, Try.func119, rfl, beq_eq_false_iff_ne.1 (by kernel_rfl)⟩⟩
instance : FnOk Try.prog 120 := ⟨⟨_, Try.func120, rfl, beq_eq_false_iff_ne.1 (by kernel_rfl)⟩⟩
instance : FnOk Try.prog 121 := ⟨⟨_, Try.func121, rfl, beq_eq_false_iff_ne.1 (by kernel_rfl)⟩⟩
instance : FnOk Try.prog 122 := ⟨⟨_, Try.func122, rfl, beq_eq_false_iff_ne.1 (by kernel_rfl)⟩⟩
instance : FnOk Try.prog 123 := ⟨⟨_, Try.func123, rfl, beq_eq_false_iff_ne.1 (by kernel_rfl)⟩⟩
instance : FnOk Try.prog 124 := ⟨⟨_, Try.func124, rfl, beq_eq_false_iff_ne.1 (by kernel_rfl)⟩⟩
instance : FnOk Try.prog 125 := ⟨⟨_, Try.func125, rfl, beq_eq_false_iff_ne.1 (by kernel_rfl)⟩⟩
instance : FnOk Try.prog 126 := ⟨⟨_, Try.func126, rfl, beq_eq_false_iff_ne.1 (by kernel_rfl)⟩⟩
instance : FnOk Try.prog 127 := ⟨⟨_, Try.func127, rfl, beq_eq_false_iff_ne.1 (by kernel_rfl)⟩⟩
instance : FnOk Try.prog 128 := ⟨⟨_, Try.func128, rfl, beq_eq_false_iff_ne.1 (by kernel_rfl)⟩⟩
instance : FnOk Try.prog 129 := ⟨⟨_, Try.func129, rfl, beq_eq_false_iff_ne.1 (by kernel_rfl)⟩⟩
instance : FnOk Try.prog 130 := ⟨⟨_, Try.func130, rfl, beq_eq_false_iff_ne.1 (by kernel_rfl)⟩⟩
instance : FnOk Try.prog 131 := ⟨⟨_, Try.func131, rfl, beq_eq_false_iff_ne.1 (by kernel_rfl)⟩⟩
instance : FnOk Try.prog 132 := ⟨⟨_, Try.func132, rfl, beq_eq_false_iff_ne.1 (by kernel_rfl)⟩⟩
instance : FnOk Try.prog 133 := ⟨⟨_, Try.func133, rfl, beq_eq_false_iff_ne.1 (by kernel_rfl)⟩⟩
instance : FnOk Try.prog 134 := ⟨⟨_, Try.func134, rfl, beq_eq_false_iff_ne.1 (by kernel_rfl)⟩⟩
instance : FnOk Try.prog 135 := ⟨⟨_, Try.func135, rfl, beq_eq_false_iff_ne.1 (by kernel_rfl)⟩⟩
instance : FnOk Try.prog 136 := ⟨⟨_, Try.func136, rfl, beq_eq_false_iff_ne.1 (by kernel_rfl)⟩⟩
instance : FnOk Try.prog 137 := ⟨⟨_, Try.func137, rfl, beq_eq_false_iff_ne.1 (by kernel_rfl)⟩⟩
instance : FnOk Try.prog 138 := ⟨⟨_, Try.func138, rfl, beq_eq_false_iff_ne.1 (by kernel_rfl)⟩⟩
instance : FnOk Try.prog 139 := ⟨⟨_, Try.func139, rfl, beq_eq_false_iff_ne.1 (by kernel_rfl)⟩⟩
instance : FnOk Try.prog 140 := ⟨⟨_, Try.func140, rfl, beq_eq_false_iff_ne.1 (by kernel_rfl)⟩⟩
instance : FnOk Try.prog 141 := ⟨⟨_, Try.func141, rfl, beq_eq_false_iff_ne.1 (by kernel_rfl)⟩⟩
instance : FnOk Try.prog 142 := ⟨⟨_, Try.func142, rfl, beq_eq_false_iff_ne.1 (by kernel_rfl)⟩⟩
instance : FnOk Try.prog 143 := ⟨⟨_, Try.func143, rfl, beq_eq_false_iff_ne.1 (by kernel_rfl)⟩⟩
instance : FnOk Try.prog 144 := ⟨⟨_, Try.func144, rfl, beq_eq_false_iff_ne.1 (by kernel_rfl)⟩⟩
instance : FnOk Try.prog 145 := ⟨⟨_, Try.func145, rfl, beq_eq_false_iff_ne.1 (by kernel_rfl)⟩⟩
instance : FnOk Try.prog 146 := ⟨⟨_, Try.func146, rfl, beq_eq_false_iff_ne.1 (by kernel_rfl)⟩⟩
instance : FnOk Try.prog 147 := ⟨⟨_, Try.func147, rfl, beq_eq_false_iff_ne.1 (by kernel_rfl)⟩⟩
instance : FnOk Try.prog 148 := ⟨⟨_, Try.func148, rfl, beq_eq_false_iff_ne.1 (by kernel_rfl)⟩⟩
instance : FnOk Try.prog 149 := ⟨⟨_, Try.func149, rfl, beq_eq_false_iff_ne.1 (by kernel_rfl)⟩⟩
instance : FnOk Try.prog 150 := ⟨⟨_, Try.func150, rfl, beq_eq_false_iff_ne.1 (by kernel_rfl)⟩⟩
instance : FnOk Try.prog 151 := ⟨⟨_, Try.func151, rfl, beq_eq_false_iff_ne.1 (by kernel_rfl)⟩⟩
instance : FnOk Try.prog 152 := ⟨⟨_, Try.func152, rfl, beq_eq_false_iff_ne.1 (by kernel_rfl)⟩⟩
instance : FnOk Try.prog 153 := ⟨⟨_, Try.func153, rfl, beq_eq_false_iff_ne.1 (by kernel_rfl)⟩⟩
instance : FnOk Try.prog 154 := ⟨⟨_, Try.func154, rfl, beq_eq_false_iff_ne.1 (by kernel_rfl)⟩⟩
instance : FnOk Try.prog 155 := ⟨⟨_, Try.func155, rfl, beq_eq_false_iff_ne.1 (by kernel_rfl)⟩⟩
instance : FnOk Try.prog 156 := ⟨⟨_, Try.func156, rfl, beq_eq_false_iff_ne.1 (by kernel_rfl)⟩⟩
instance : FnOk Try.prog 157 := ⟨⟨_, Try.func157, rfl, beq_eq_false_iff_ne.1 (by kernel_rfl)⟩⟩
instance : FnOk Try.prog 158 := ⟨⟨_, Try.func158, rfl, beq_eq_false_iff_ne.1 (by kernel_rfl)⟩⟩
instance : FnOk Try.prog 159 := ⟨⟨_, Try.func159, rfl, beq_eq_false_iff_ne.1 (by kernel_rfl)⟩⟩
instance : FnOk Try.prog 160 := ⟨⟨_, Try.func160, rfl, beq_eq_false_iff_ne.1 (by kernel_rfl)⟩⟩
instance : FnOk Try.prog 161 := ⟨⟨_, Try.func161, rfl, beq_eq_false_iff_ne.1 (by kernel_rfl)⟩⟩
instance : FnOk Try.prog 162 := ⟨⟨_, Try.func162, rfl, beq_eq_false_iff_ne.1 (by kernel_rfl)⟩⟩
end E
end Go.Proofs.Ytjdagbicjhmeeaa
