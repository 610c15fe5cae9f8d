/- Facts on the types of this program, each by its table (written by a program of this repo: gen_ty.py). -/
import Derived.Test.YtpiiapoafmnhhaaGreatProg
import Derived.Test.YtpiiapoafmnhhaaGreatEngM
namespace Go.Proofs.YtpiiapoafmnhhaaGreat
namespace E
open Go Go.RowKit
set_option linter.unusedSimpArgs false
set_option linter.unusedVariables false
theorem mixed : Tryz.prog.follows .mixedOrders = true := by kernel_rfl
instance : TOne Tryz.prog 3 := ⟨fun _ => by kernel_rfl⟩
instance : TSize Tryz.prog 3 1 := ⟨fun _ => by kernel_rfl⟩
instance : TInt Tryz.prog 3 .i64 := ⟨by kernel_rfl⟩
instance : TZero Tryz.prog 3 [.int .i64 0] := ⟨fun _ => ⟨(.int .i64 0), by kernel_rfl, rfl⟩⟩
theorem row_3 : (Tryz.prog.info? 3).map (fun i => (i.zero, i.size, i.bytes)) = some (some (.int .i64 0), 1, 8) := by kernel_rfl
instance : TRow Tryz.prog 3 1 8 := ⟨by obtain ⟨i, h1, h2, h3, h4⟩ := info_parts row_3; exact ⟨i, _, h1, h2, h3, h4, rfl, by decide⟩⟩
instance : TMk Tryz.prog 3 [.int .i64 0] 8 := ⟨by obtain ⟨i, h1, h2, h3, h4⟩ := info_parts row_3; exact ⟨i, _, h1, h2, h3, h4, rfl⟩⟩
instance : TOne Tryz.prog 4 := ⟨fun _ => by kernel_rfl⟩
instance : TSize Tryz.prog 4 1 := ⟨fun _ => by kernel_rfl⟩
instance : TBool Tryz.prog 4 := ⟨by kernel_rfl⟩
instance : TZero Tryz.prog 4 [.bool false] := ⟨fun _ => ⟨(.bool false), by kernel_rfl, rfl⟩⟩
theorem row_4 : (Tryz.prog.info? 4).map (fun i => (i.zero, i.size, i.bytes)) = some (some (.bool false), 1, 1) := by kernel_rfl
instance : TRow Tryz.prog 4 1 1 := ⟨by obtain ⟨i, h1, h2, h3, h4⟩ := info_parts row_4; exact ⟨i, _, h1, h2, h3, h4, rfl, by decide⟩⟩
instance : TMk Tryz.prog 4 [.bool false] 1 := ⟨by obtain ⟨i, h1, h2, h3, h4⟩ := info_parts row_4; exact ⟨i, _, h1, h2, h3, h4, rfl⟩⟩
instance : TOne Tryz.prog 5 := ⟨fun _ => by kernel_rfl⟩
instance : TSize Tryz.prog 5 1 := ⟨fun _ => by kernel_rfl⟩
instance : TInt Tryz.prog 5 .u8 := ⟨by kernel_rfl⟩
instance : TZero Tryz.prog 5 [.int .u8 0] := ⟨fun _ => ⟨(.int .u8 0), by kernel_rfl, rfl⟩⟩
theorem row_5 : (Tryz.prog.info? 5).map (fun i => (i.zero, i.size, i.bytes)) = some (some (.int .u8 0), 1, 1) := by kernel_rfl
instance : TRow Tryz.prog 5 1 1 := ⟨by obtain ⟨i, h1, h2, h3, h4⟩ := info_parts row_5; exact ⟨i, _, h1, h2, h3, h4, rfl, by decide⟩⟩
instance : TMk Tryz.prog 5 [.int .u8 0] 1 := ⟨by obtain ⟨i, h1, h2, h3, h4⟩ := info_parts row_5; exact ⟨i, _, h1, h2, h3, h4, rfl⟩⟩
instance : TOne Tryz.prog 9 := ⟨fun _ => by kernel_rfl⟩
instance : TSize Tryz.prog 9 1 := ⟨fun _ => by kernel_rfl⟩
instance : TStr Tryz.prog 9 := ⟨by kernel_rfl⟩
instance : TOne Tryz.prog 22 := ⟨fun _ => by kernel_rfl⟩
instance : TSize Tryz.prog 22 1 := ⟨fun _ => by kernel_rfl⟩
instance : TSlc Tryz.prog 22 96 := ⟨by kernel_rfl⟩
instance : TAgg Tryz.prog 24 2 := ⟨fun _ => by kernel_rfl, fun _ => by kernel_rfl⟩
instance : TSize Tryz.prog 24 2 := ⟨fun _ => by kernel_rfl⟩
instance : TFld Tryz.prog 24 0 0 := ⟨fun _ _ => by kernel_rfl⟩
instance : TFld Tryz.prog 24 1 1 := ⟨fun _ _ => by kernel_rfl⟩
instance : TAgg Tryz.prog 26 3 := ⟨fun _ => by kernel_rfl, fun _ => by kernel_rfl⟩
instance : TSize Tryz.prog 26 3 := ⟨fun _ => by kernel_rfl⟩
instance : TFld Tryz.prog 26 0 0 := ⟨fun _ _ => by kernel_rfl⟩
instance : TFld Tryz.prog 26 1 1 := ⟨fun _ _ => by kernel_rfl⟩
instance : TOne Tryz.prog 28 := ⟨fun _ => by kernel_rfl⟩
instance : TSize Tryz.prog 28 1 := ⟨fun _ => by kernel_rfl⟩
instance : TSlc Tryz.prog 28 63 := ⟨by kernel_rfl⟩
instance : TOne Tryz.prog 30 := ⟨fun _ => by kernel_rfl⟩
instance : TSize Tryz.prog 30 1 := ⟨fun _ => by kernel_rfl⟩
instance : TSlc Tryz.prog 30 65 := ⟨by kernel_rfl⟩
instance : TAgg Tryz.prog 32 2 := ⟨fun _ => by kernel_rfl, fun _ => by kernel_rfl⟩
instance : TSize Tryz.prog 32 2 := ⟨fun _ => by kernel_rfl⟩
instance : TFld Tryz.prog 32 0 0 := ⟨fun _ _ => by kernel_rfl⟩
instance : TFld Tryz.prog 32 1 1 := ⟨fun _ _ => by kernel_rfl⟩
instance : TZero Tryz.prog 32 [.int .i64 0, .int .i64 0] := ⟨fun _ => ⟨(.agg #[.int .i64 0, .int .i64 0]), by kernel_rfl, rfl⟩⟩
theorem row_32 : (Tryz.prog.info? 32).map (fun i => (i.zero, i.size, i.bytes)) = some (some (.agg #[.int .i64 0, .int .i64 0]), 2, 16) := by kernel_rfl
instance : TRow Tryz.prog 32 2 16 := ⟨by obtain ⟨i, h1, h2, h3, h4⟩ := info_parts row_32; exact ⟨i, _, h1, h2, h3, h4, rfl, by decide⟩⟩
instance : TMk Tryz.prog 32 [.int .i64 0, .int .i64 0] 16 := ⟨by obtain ⟨i, h1, h2, h3, h4⟩ := info_parts row_32; exact ⟨i, _, h1, h2, h3, h4, rfl⟩⟩
instance : TAgg Tryz.prog 34 3 := ⟨fun _ => by kernel_rfl, fun _ => by kernel_rfl⟩
instance : TSize Tryz.prog 34 3 := ⟨fun _ => by kernel_rfl⟩
instance : TFld Tryz.prog 34 0 0 := ⟨fun _ _ => by kernel_rfl⟩
instance : TFld Tryz.prog 34 1 1 := ⟨fun _ _ => by kernel_rfl⟩
instance : TZero Tryz.prog 34 [.int .i64 0, .int .i64 0, .int .i64 0] := ⟨fun _ => ⟨(.agg #[.int .i64 0, .int .i64 0, .int .i64 0]), by kernel_rfl, rfl⟩⟩
instance : TOne Tryz.prog 41 := ⟨fun _ => by kernel_rfl⟩
instance : TSize Tryz.prog 41 1 := ⟨fun _ => by kernel_rfl⟩
instance : TSlc Tryz.prog 41 5 := ⟨by kernel_rfl⟩
instance : TOne Tryz.prog 42 := ⟨fun _ => by kernel_rfl⟩
instance : TSize Tryz.prog 42 1 := ⟨fun _ => by kernel_rfl⟩
instance : TSlc Tryz.prog 42 32 := ⟨by kernel_rfl⟩
instance : TOne Tryz.prog 43 := ⟨fun _ => by kernel_rfl⟩
instance : TSize Tryz.prog 43 1 := ⟨fun _ => by kernel_rfl⟩
instance : TSlc Tryz.prog 43 84 := ⟨by kernel_rfl⟩
instance : TAgg Tryz.prog 45 2 := ⟨fun _ => by kernel_rfl, fun _ => by kernel_rfl⟩
instance : TSize Tryz.prog 45 2 := ⟨fun _ => by kernel_rfl⟩
instance : TFld Tryz.prog 45 0 0 := ⟨fun _ _ => by kernel_rfl⟩
instance : TFld Tryz.prog 45 1 1 := ⟨fun _ _ => by kernel_rfl⟩
instance : TZero Tryz.prog 45 [.slice none 0 0, .slice none 0 0] := ⟨fun _ => ⟨(.agg #[.slice none 0 0, .slice none 0 0]), by kernel_rfl, rfl⟩⟩
instance : TOne Tryz.prog 48 := ⟨fun _ => by kernel_rfl⟩
instance : TSize Tryz.prog 48 1 := ⟨fun _ => by kernel_rfl⟩
instance : TSlc Tryz.prog 48 3 := ⟨by kernel_rfl⟩
instance : TZero Tryz.prog 48 [.slice none 0 0] := ⟨fun _ => ⟨(.slice none 0 0), by kernel_rfl, rfl⟩⟩
theorem row_48 : (Tryz.prog.info? 48).map (fun i => (i.zero, i.size, i.bytes)) = some (some (.slice none 0 0), 1, 24) := by kernel_rfl
instance : TRow Tryz.prog 48 1 24 := ⟨by obtain ⟨i, h1, h2, h3, h4⟩ := info_parts row_48; exact ⟨i, _, h1, h2, h3, h4, rfl, by decide⟩⟩
instance : TMk Tryz.prog 48 [.slice none 0 0] 24 := ⟨by obtain ⟨i, h1, h2, h3, h4⟩ := info_parts row_48; exact ⟨i, _, h1, h2, h3, h4, rfl⟩⟩
instance : TAgg Tryz.prog 63 2 := ⟨fun _ => by kernel_rfl, fun _ => by kernel_rfl⟩
instance : TSize Tryz.prog 63 2 := ⟨fun _ => by kernel_rfl⟩
instance : TFld Tryz.prog 63 0 0 := ⟨fun _ _ => by kernel_rfl⟩
instance : TFld Tryz.prog 63 1 1 := ⟨fun _ _ => by kernel_rfl⟩
instance : TZero Tryz.prog 63 [.int .i64 0, .int .i64 0] := ⟨fun _ => ⟨(.agg #[.int .i64 0, .int .i64 0]), by kernel_rfl, rfl⟩⟩
theorem row_63 : (Tryz.prog.info? 63).map (fun i => (i.zero, i.size, i.bytes)) = some (some (.agg #[.int .i64 0, .int .i64 0]), 2, 16) := by kernel_rfl
instance : TRow Tryz.prog 63 2 16 := ⟨by obtain ⟨i, h1, h2, h3, h4⟩ := info_parts row_63; exact ⟨i, _, h1, h2, h3, h4, rfl, by decide⟩⟩
instance : TMk Tryz.prog 63 [.int .i64 0, .int .i64 0] 16 := ⟨by obtain ⟨i, h1, h2, h3, h4⟩ := info_parts row_63; exact ⟨i, _, h1, h2, h3, h4, rfl⟩⟩
instance : TAgg Tryz.prog 65 2 := ⟨fun _ => by kernel_rfl, fun _ => by kernel_rfl⟩
instance : TSize Tryz.prog 65 2 := ⟨fun _ => by kernel_rfl⟩
instance : TFld Tryz.prog 65 0 0 := ⟨fun _ _ => by kernel_rfl⟩
instance : TFld Tryz.prog 65 1 1 := ⟨fun _ _ => by kernel_rfl⟩
instance : TZero Tryz.prog 65 [.int .i64 0, .string ⟨#[]⟩] := ⟨fun _ => ⟨(.agg #[.int .i64 0, .string ⟨#[]⟩]), by kernel_rfl, rfl⟩⟩
theorem row_65 : (Tryz.prog.info? 65).map (fun i => (i.zero, i.size, i.bytes)) = some (some (.agg #[.int .i64 0, .string ⟨#[]⟩]), 2, 24) := by kernel_rfl
instance : TRow Tryz.prog 65 2 24 := ⟨by obtain ⟨i, h1, h2, h3, h4⟩ := info_parts row_65; exact ⟨i, _, h1, h2, h3, h4, rfl, by decide⟩⟩
instance : TMk Tryz.prog 65 [.int .i64 0, .string ⟨#[]⟩] 24 := ⟨by obtain ⟨i, h1, h2, h3, h4⟩ := info_parts row_65; exact ⟨i, _, h1, h2, h3, h4, rfl⟩⟩
instance : TAgg Tryz.prog 68 2 := ⟨fun _ => by kernel_rfl, fun _ => by kernel_rfl⟩
instance : TSize Tryz.prog 68 2 := ⟨fun _ => by kernel_rfl⟩
instance : TFld Tryz.prog 68 0 0 := ⟨fun _ _ => by kernel_rfl⟩
instance : TFld Tryz.prog 68 1 1 := ⟨fun _ _ => by kernel_rfl⟩
instance : TZero Tryz.prog 68 [.int .i64 0, .slice none 0 0] := ⟨fun _ => ⟨(.agg #[.int .i64 0, .slice none 0 0]), by kernel_rfl, rfl⟩⟩
instance : TOne Tryz.prog 75 := ⟨fun _ => by kernel_rfl⟩
instance : TSize Tryz.prog 75 1 := ⟨fun _ => by kernel_rfl⟩
instance : TSlc Tryz.prog 75 183 := ⟨by kernel_rfl⟩
instance : TAgg Tryz.prog 77 2 := ⟨fun _ => by kernel_rfl, fun _ => by kernel_rfl⟩
instance : TSize Tryz.prog 77 2 := ⟨fun _ => by kernel_rfl⟩
instance : TFld Tryz.prog 77 0 0 := ⟨fun _ _ => by kernel_rfl⟩
instance : TFld Tryz.prog 77 1 1 := ⟨fun _ _ => by kernel_rfl⟩
instance : TAgg Tryz.prog 84 5 := ⟨fun _ => by kernel_rfl, fun _ => by kernel_rfl⟩
instance : TSize Tryz.prog 84 5 := ⟨fun _ => by kernel_rfl⟩
instance : TFld Tryz.prog 84 0 0 := ⟨fun _ _ => by kernel_rfl⟩
instance : TFld Tryz.prog 84 1 1 := ⟨fun _ _ => by kernel_rfl⟩
instance : TFld Tryz.prog 84 2 3 := ⟨fun _ _ => by kernel_rfl⟩
instance : TZero Tryz.prog 84 [.int .i64 0, .int .i64 0, .int .i64 0, .int .i64 0, .int .i64 0] := ⟨fun _ => ⟨(.agg #[.int .i64 0, .int .i64 0, .int .i64 0, .int .i64 0, .int .i64 0]), by kernel_rfl, rfl⟩⟩
theorem row_84 : (Tryz.prog.info? 84).map (fun i => (i.zero, i.size, i.bytes)) = some (some (.agg #[.int .i64 0, .int .i64 0, .int .i64 0, .int .i64 0, .int .i64 0]), 5, 40) := by kernel_rfl
instance : TRow Tryz.prog 84 5 40 := ⟨by obtain ⟨i, h1, h2, h3, h4⟩ := info_parts row_84; exact ⟨i, _, h1, h2, h3, h4, rfl, by decide⟩⟩
instance : TMk Tryz.prog 84 [.int .i64 0, .int .i64 0, .int .i64 0, .int .i64 0, .int .i64 0] 40 := ⟨by obtain ⟨i, h1, h2, h3, h4⟩ := info_parts row_84; exact ⟨i, _, h1, h2, h3, h4, rfl⟩⟩
instance : TAgg Tryz.prog 86 8 := ⟨fun _ => by kernel_rfl, fun _ => by kernel_rfl⟩
instance : TSize Tryz.prog 86 8 := ⟨fun _ => by kernel_rfl⟩
instance : TFld Tryz.prog 86 0 0 := ⟨fun _ _ => by kernel_rfl⟩
instance : TFld Tryz.prog 86 1 1 := ⟨fun _ _ => by kernel_rfl⟩
instance : TFld Tryz.prog 86 2 3 := ⟨fun _ _ => by kernel_rfl⟩
instance : TZero Tryz.prog 86 [.int .i64 0, .int .i64 0, .int .i64 0, .int .i64 0, .int .i64 0, .int .i64 0, .int .i64 0, .int .i64 0] := ⟨fun _ => ⟨(.agg #[.int .i64 0, .int .i64 0, .int .i64 0, .int .i64 0, .int .i64 0, .int .i64 0, .int .i64 0, .int .i64 0]), by kernel_rfl, rfl⟩⟩
instance : TAgg Tryz.prog 96 2 := ⟨fun _ => by kernel_rfl, fun _ => by kernel_rfl⟩
instance : TSize Tryz.prog 96 2 := ⟨fun _ => by kernel_rfl⟩
instance : TFld Tryz.prog 96 0 0 := ⟨fun _ _ => by kernel_rfl⟩
instance : TFld Tryz.prog 96 1 1 := ⟨fun _ _ => by kernel_rfl⟩
instance : TZero Tryz.prog 96 [.int .i64 0, .string ⟨#[]⟩] := ⟨fun _ => ⟨(.agg #[.int .i64 0, .string ⟨#[]⟩]), by kernel_rfl, rfl⟩⟩
theorem row_96 : (Tryz.prog.info? 96).map (fun i => (i.zero, i.size, i.bytes)) = some (some (.agg #[.int .i64 0, .string ⟨#[]⟩]), 2, 24) := by kernel_rfl
instance : TRow Tryz.prog 96 2 24 := ⟨by obtain ⟨i, h1, h2, h3, h4⟩ := info_parts row_96; exact ⟨i, _, h1, h2, h3, h4, rfl, by decide⟩⟩
instance : TMk Tryz.prog 96 [.int .i64 0, .string ⟨#[]⟩] 24 := ⟨by obtain ⟨i, h1, h2, h3, h4⟩ := info_parts row_96; exact ⟨i, _, h1, h2, h3, h4, rfl⟩⟩
instance : TOne Tryz.prog 105 := ⟨fun _ => by kernel_rfl⟩
instance : TSize Tryz.prog 105 1 := ⟨fun _ => by kernel_rfl⟩
instance : TOne Tryz.prog 117 := ⟨fun _ => by kernel_rfl⟩
instance : TSize Tryz.prog 117 1 := ⟨fun _ => by kernel_rfl⟩
instance : TOne Tryz.prog 125 := ⟨fun _ => by kernel_rfl⟩
instance : TSize Tryz.prog 125 1 := ⟨fun _ => by kernel_rfl⟩
instance : TSlc Tryz.prog 125 131 := ⟨by kernel_rfl⟩
instance : TAgg Tryz.prog 127 3 := ⟨fun _ => by kernel_rfl, fun _ => by kernel_rfl⟩
instance : TSize Tryz.prog 127 3 := ⟨fun _ => by kernel_rfl⟩
instance : TFld Tryz.prog 127 0 0 := ⟨fun _ _ => by kernel_rfl⟩
instance : TFld Tryz.prog 127 1 1 := ⟨fun _ _ => by kernel_rfl⟩
instance : TFld Tryz.prog 127 2 2 := ⟨fun _ _ => by kernel_rfl⟩
instance : TZero Tryz.prog 127 [.slice none 0 0, .int .i64 0, .slice none 0 0] := ⟨fun _ => ⟨(.agg #[.slice none 0 0, .int .i64 0, .slice none 0 0]), by kernel_rfl, rfl⟩⟩
theorem row_127 : (Tryz.prog.info? 127).map (fun i => (i.zero, i.size, i.bytes)) = some (some (.agg #[.slice none 0 0, .int .i64 0, .slice none 0 0]), 3, 56) := by kernel_rfl
instance : TRow Tryz.prog 127 3 56 := ⟨by obtain ⟨i, h1, h2, h3, h4⟩ := info_parts row_127; exact ⟨i, _, h1, h2, h3, h4, rfl, by decide⟩⟩
instance : TMk Tryz.prog 127 [.slice none 0 0, .int .i64 0, .slice none 0 0] 56 := ⟨by obtain ⟨i, h1, h2, h3, h4⟩ := info_parts row_127; exact ⟨i, _, h1, h2, h3, h4, rfl⟩⟩
instance : TAgg Tryz.prog 131 4 := ⟨fun _ => by kernel_rfl, fun _ => by kernel_rfl⟩
instance : TSize Tryz.prog 131 4 := ⟨fun _ => by kernel_rfl⟩
instance : TFld Tryz.prog 131 0 0 := ⟨fun _ _ => by kernel_rfl⟩
instance : TFld Tryz.prog 131 1 1 := ⟨fun _ _ => by kernel_rfl⟩
instance : TFld Tryz.prog 131 2 2 := ⟨fun _ _ => by kernel_rfl⟩
instance : TFld Tryz.prog 131 3 3 := ⟨fun _ _ => by kernel_rfl⟩
instance : TZero Tryz.prog 131 [.int .i64 0, .slice none 0 0, .int .i64 0, .int .i64 0] := ⟨fun _ => ⟨(.agg #[.int .i64 0, .slice none 0 0, .int .i64 0, .int .i64 0]), by kernel_rfl, rfl⟩⟩
theorem row_131 : (Tryz.prog.info? 131).map (fun i => (i.zero, i.size, i.bytes)) = some (some (.agg #[.int .i64 0, .slice none 0 0, .int .i64 0, .int .i64 0]), 4, 48) := by kernel_rfl
instance : TRow Tryz.prog 131 4 48 := ⟨by obtain ⟨i, h1, h2, h3, h4⟩ := info_parts row_131; exact ⟨i, _, h1, h2, h3, h4, rfl, by decide⟩⟩
instance : TMk Tryz.prog 131 [.int .i64 0, .slice none 0 0, .int .i64 0, .int .i64 0] 48 := ⟨by obtain ⟨i, h1, h2, h3, h4⟩ := info_parts row_131; exact ⟨i, _, h1, h2, h3, h4, rfl⟩⟩
instance : TOne Tryz.prog 133 := ⟨fun _ => by kernel_rfl⟩
instance : TSize Tryz.prog 133 1 := ⟨fun _ => by kernel_rfl⟩
instance : TInt Tryz.prog 133 .u8 := ⟨by kernel_rfl⟩
instance : TOne Tryz.prog 150 := ⟨fun _ => by kernel_rfl⟩
instance : TSize Tryz.prog 150 1 := ⟨fun _ => by kernel_rfl⟩
instance : TSlc Tryz.prog 150 127 := ⟨by kernel_rfl⟩
instance : TAgg Tryz.prog 152 2 := ⟨fun _ => by kernel_rfl, fun _ => by kernel_rfl⟩
instance : TSize Tryz.prog 152 2 := ⟨fun _ => by kernel_rfl⟩
instance : TFld Tryz.prog 152 0 0 := ⟨fun _ _ => by kernel_rfl⟩
instance : TFld Tryz.prog 152 1 1 := ⟨fun _ _ => by kernel_rfl⟩
instance : TOne Tryz.prog 159 := ⟨fun _ => by kernel_rfl⟩
instance : TSize Tryz.prog 159 1 := ⟨fun _ => by kernel_rfl⟩
instance : TOne Tryz.prog 163 := ⟨fun _ => by kernel_rfl⟩
instance : TSize Tryz.prog 163 1 := ⟨fun _ => by kernel_rfl⟩
instance : TSlc Tryz.prog 163 48 := ⟨by kernel_rfl⟩
instance : TOne Tryz.prog 165 := ⟨fun _ => by kernel_rfl⟩
instance : TSize Tryz.prog 165 1 := ⟨fun _ => by kernel_rfl⟩
instance : TSlc Tryz.prog 165 4 := ⟨by kernel_rfl⟩
instance : TAgg Tryz.prog 176 3 := ⟨fun _ => by kernel_rfl, fun _ => by kernel_rfl⟩
instance : TSize Tryz.prog 176 3 := ⟨fun _ => by kernel_rfl⟩
instance : TFld Tryz.prog 176 0 0 := ⟨fun _ _ => by kernel_rfl⟩
instance : TFld Tryz.prog 176 1 1 := ⟨fun _ _ => by kernel_rfl⟩
instance : TFld Tryz.prog 176 2 2 := ⟨fun _ _ => by kernel_rfl⟩
instance : TZero Tryz.prog 176 [.string ⟨#[]⟩, .int .i64 0, .bool false] := ⟨fun _ => ⟨(.agg #[.string ⟨#[]⟩, .int .i64 0, .bool false]), by kernel_rfl, rfl⟩⟩
instance : TAgg Tryz.prog 183 2 := ⟨fun _ => by kernel_rfl, fun _ => by kernel_rfl⟩
instance : TSize Tryz.prog 183 2 := ⟨fun _ => by kernel_rfl⟩
instance : TFld Tryz.prog 183 0 0 := ⟨fun _ _ => by kernel_rfl⟩
instance : TFld Tryz.prog 183 1 1 := ⟨fun _ _ => by kernel_rfl⟩
instance : TZero Tryz.prog 183 [.int .i64 0, .int .i64 0] := ⟨fun _ => ⟨(.agg #[.int .i64 0, .int .i64 0]), by kernel_rfl, rfl⟩⟩
theorem row_183 : (Tryz.prog.info? 183).map (fun i => (i.zero, i.size, i.bytes)) = some (some (.agg #[.int .i64 0, .int .i64 0]), 2, 16) := by kernel_rfl
instance : TRow Tryz.prog 183 2 16 := ⟨by obtain ⟨i, h1, h2, h3, h4⟩ := info_parts row_183; exact ⟨i, _, h1, h2, h3, h4, rfl, by decide⟩⟩
instance : TMk Tryz.prog 183 [.int .i64 0, .int .i64 0] 16 := ⟨by obtain ⟨i, h1, h2, h3, h4⟩ := info_parts row_183; exact ⟨i, _, h1, h2, h3, h4, rfl⟩⟩
instance : TOne Tryz.prog 194 := ⟨fun _ => by kernel_rfl⟩
instance : TSize Tryz.prog 194 1 := ⟨fun _ => by kernel_rfl⟩
instance : TAgg Tryz.prog 205 8 := ⟨fun _ => by kernel_rfl, fun _ => by kernel_rfl⟩
instance : TSize Tryz.prog 205 8 := ⟨fun _ => by kernel_rfl⟩
instance : TArr Tryz.prog 205 8 3 := ⟨by kernel_rfl⟩
instance : TZero Tryz.prog 205 [.int .i64 0, .int .i64 0, .int .i64 0, .int .i64 0, .int .i64 0, .int .i64 0, .int .i64 0, .int .i64 0] := ⟨fun _ => ⟨(.agg #[.int .i64 0, .int .i64 0, .int .i64 0, .int .i64 0, .int .i64 0, .int .i64 0, .int .i64 0, .int .i64 0]), by kernel_rfl, rfl⟩⟩
instance : TOne Tryz.prog 208 := ⟨fun _ => by kernel_rfl⟩
instance : TSize Tryz.prog 208 1 := ⟨fun _ => by kernel_rfl⟩
instance : TInt Tryz.prog 208 .u64 := ⟨by kernel_rfl⟩
instance : TOne Tryz.prog 215 := ⟨fun _ => by kernel_rfl⟩
instance : TSize Tryz.prog 215 1 := ⟨fun _ => by kernel_rfl⟩
instance : TOne Tryz.prog 228 := ⟨fun _ => by kernel_rfl⟩
instance : TSize Tryz.prog 228 1 := ⟨fun _ => by kernel_rfl⟩
instance : TInt Tryz.prog 228 .i64 := ⟨by kernel_rfl⟩
instance : TOne Tryz.prog 235 := ⟨fun _ => by kernel_rfl⟩
instance : TSize Tryz.prog 235 1 := ⟨fun _ => by kernel_rfl⟩
instance : TInt Tryz.prog 235 .u32 := ⟨by kernel_rfl⟩
instance : TOne Tryz.prog 237 := ⟨fun _ => by kernel_rfl⟩
instance : TSize Tryz.prog 237 1 := ⟨fun _ => by kernel_rfl⟩
instance : TInt Tryz.prog 237 .u64 := ⟨by kernel_rfl⟩
instance : TOne Tryz.prog 241 := ⟨fun _ => by kernel_rfl⟩
instance : TSize Tryz.prog 241 1 := ⟨fun _ => by kernel_rfl⟩
instance : TInt Tryz.prog 241 .u64 := ⟨by kernel_rfl⟩
instance : TZero Tryz.prog 241 [.int .u64 0] := ⟨fun _ => ⟨(.int .u64 0), by kernel_rfl, rfl⟩⟩
instance : TOne Tryz.prog 245 := ⟨fun _ => by kernel_rfl⟩
instance : TSize Tryz.prog 245 1 := ⟨fun _ => by kernel_rfl⟩
instance : TLay Tryz.prog 32 [.int .i64 0, .int .i64 0] #[(0, 1), (1, 1)] := ⟨fun _ => ⟨.agg #[.int .i64 0, .int .i64 0], by kernel_rfl, rfl⟩, ⟨Tryz.prog.fieldsOf 32, by kernel_rfl, fun _ => by kernel_rfl⟩⟩
instance : TLay Tryz.prog 34 [.int .i64 0, .int .i64 0, .int .i64 0] #[(0, 1), (1, 2)] := ⟨fun _ => ⟨.agg #[.int .i64 0, .int .i64 0, .int .i64 0], by kernel_rfl, rfl⟩, ⟨Tryz.prog.fieldsOf 34, by kernel_rfl, fun _ => by kernel_rfl⟩⟩
instance : TLay Tryz.prog 45 [.slice none 0 0, .slice none 0 0] #[(0, 1), (1, 1)] := ⟨fun _ => ⟨.agg #[.slice none 0 0, .slice none 0 0], by kernel_rfl, rfl⟩, ⟨Tryz.prog.fieldsOf 45, by kernel_rfl, fun _ => by kernel_rfl⟩⟩
instance : TLay Tryz.prog 63 [.int .i64 0, .int .i64 0] #[(0, 1), (1, 1)] := ⟨fun _ => ⟨.agg #[.int .i64 0, .int .i64 0], by kernel_rfl, rfl⟩, ⟨Tryz.prog.fieldsOf 63, by kernel_rfl, fun _ => by kernel_rfl⟩⟩
instance : TLay Tryz.prog 65 [.int .i64 0, .string ⟨#[]⟩] #[(0, 1), (1, 1)] := ⟨fun _ => ⟨.agg #[.int .i64 0, .string ⟨#[]⟩], by kernel_rfl, rfl⟩, ⟨Tryz.prog.fieldsOf 65, by kernel_rfl, fun _ => by kernel_rfl⟩⟩
instance : TLay Tryz.prog 68 [.int .i64 0, .slice none 0 0] #[(0, 1), (1, 1)] := ⟨fun _ => ⟨.agg #[.int .i64 0, .slice none 0 0], by kernel_rfl, rfl⟩, ⟨Tryz.prog.fieldsOf 68, by kernel_rfl, fun _ => by kernel_rfl⟩⟩
instance : TLay Tryz.prog 84 [.int .i64 0, .int .i64 0, .int .i64 0, .int .i64 0, .int .i64 0] #[(0, 1), (1, 2), (3, 2)] := ⟨fun _ => ⟨.agg #[.int .i64 0, .int .i64 0, .int .i64 0, .int .i64 0, .int .i64 0], by kernel_rfl, rfl⟩, ⟨Tryz.prog.fieldsOf 84, by kernel_rfl, fun _ => by kernel_rfl⟩⟩
instance : TLay Tryz.prog 86 [.int .i64 0, .int .i64 0, .int .i64 0, .int .i64 0, .int .i64 0, .int .i64 0, .int .i64 0, .int .i64 0] #[(0, 1), (1, 2), (3, 5)] := ⟨fun _ => ⟨.agg #[.int .i64 0, .int .i64 0, .int .i64 0, .int .i64 0, .int .i64 0, .int .i64 0, .int .i64 0, .int .i64 0], by kernel_rfl, rfl⟩, ⟨Tryz.prog.fieldsOf 86, by kernel_rfl, fun _ => by kernel_rfl⟩⟩
instance : TLay Tryz.prog 127 [.slice none 0 0, .int .i64 0, .slice none 0 0] #[(0, 1), (1, 1), (2, 1)] := ⟨fun _ => ⟨.agg #[.slice none 0 0, .int .i64 0, .slice none 0 0], by kernel_rfl, rfl⟩, ⟨Tryz.prog.fieldsOf 127, by kernel_rfl, fun _ => by kernel_rfl⟩⟩
instance : TLay Tryz.prog 131 [.int .i64 0, .slice none 0 0, .int .i64 0, .int .i64 0] #[(0, 1), (1, 1), (2, 1), (3, 1)] := ⟨fun _ => ⟨.agg #[.int .i64 0, .slice none 0 0, .int .i64 0, .int .i64 0], by kernel_rfl, rfl⟩, ⟨Tryz.prog.fieldsOf 131, by kernel_rfl, fun _ => by kernel_rfl⟩⟩
instance : TLay Tryz.prog 152 [.slice none 0 0, .int .i64 0] #[(0, 1), (1, 1)] := ⟨fun _ => ⟨.agg #[.slice none 0 0, .int .i64 0], by kernel_rfl, rfl⟩, ⟨Tryz.prog.fieldsOf 152, by kernel_rfl, fun _ => by kernel_rfl⟩⟩
instance : TLay Tryz.prog 176 [.string ⟨#[]⟩, .int .i64 0, .bool false] #[(0, 1), (1, 1), (2, 1)] := ⟨fun _ => ⟨.agg #[.string ⟨#[]⟩, .int .i64 0, .bool false], by kernel_rfl, rfl⟩, ⟨Tryz.prog.fieldsOf 176, by kernel_rfl, fun _ => by kernel_rfl⟩⟩
theorem eqi_24 (d : Nat) (a0 a1 b0 b1 : Int) (w : World) : (Op.equalIn (d + 2) 24 (.agg #[.int .i64 a0, .int .i64 a1]) (.agg #[.int .i64 b0, .int .i64 b1])).run Tryz.prog w = .ok (decide (a0 = b0) && (decide (a1 = b1) && true)) w := by
  rw [run_equalIn_struct w (d + 1) 24 _ _ (by kernel_rfl) (by kernel_rfl)]
  have h : (Tryz.prog.fieldsOf 24).toList.map (fun f => (f.name, f.type, f.offset)) = [("Label", 3, 0), ("Num", 3, 1)] := by kernel_rfl
  generalize (Tryz.prog.fieldsOf 24).toList = fs at h
  have hl : fs.length = 2 := by simpa using congrArg List.length h
  match fs, hl, h with
  | [f0, f1], _, h =>
    simp only [List.map_cons, List.map_nil, List.cons.injEq, Prod.mk.injEq, and_true] at h
    obtain ⟨⟨n0, t0, o0⟩, n1, t1, o1⟩ := h
    exact (eqF_int (t := 3) _ _ _ w _ _ _ _ (by rw [n0]; decide) t0 (by rw [o0]; rfl) (by rw [o0]; rfl) _ (eqF_int (t := 3) _ _ _ w _ _ _ _ (by rw [n1]; decide) t1 (by rw [o1]; rfl) (by rw [o1]; rfl) _ (eqF_nil _ _ _ _)))
instance : TEqI Tryz.prog 24 2 := ⟨by kernel_rfl, fun is js hi hj w => by
  match is, js, hi, hj with
  | [a0, a1], [b0, b1], _, _ =>
    have h := eqi_24 (10000 - 2) a0 a1 b0 b1 w
    refine h.trans ?_
    simp [Bool.decide_and, Bool.and_assoc]⟩
theorem eqi_32 (d : Nat) (a0 a1 b0 b1 : Int) (w : World) : (Op.equalIn (d + 2) 32 (.agg #[.int .i64 a0, .int .i64 a1]) (.agg #[.int .i64 b0, .int .i64 b1])).run Tryz.prog w = .ok (decide (a0 = b0) && (decide (a1 = b1) && true)) w := by
  rw [run_equalIn_struct w (d + 1) 32 _ _ (by kernel_rfl) (by kernel_rfl)]
  have h : (Tryz.prog.fieldsOf 32).toList.map (fun f => (f.name, f.type, f.offset)) = [("Label", 3, 0), ("Num", 3, 1)] := by kernel_rfl
  generalize (Tryz.prog.fieldsOf 32).toList = fs at h
  have hl : fs.length = 2 := by simpa using congrArg List.length h
  match fs, hl, h with
  | [f0, f1], _, h =>
    simp only [List.map_cons, List.map_nil, List.cons.injEq, Prod.mk.injEq, and_true] at h
    obtain ⟨⟨n0, t0, o0⟩, n1, t1, o1⟩ := h
    exact (eqF_int (t := 3) _ _ _ w _ _ _ _ (by rw [n0]; decide) t0 (by rw [o0]; rfl) (by rw [o0]; rfl) _ (eqF_int (t := 3) _ _ _ w _ _ _ _ (by rw [n1]; decide) t1 (by rw [o1]; rfl) (by rw [o1]; rfl) _ (eqF_nil _ _ _ _)))
instance : TEqI Tryz.prog 32 2 := ⟨by kernel_rfl, fun is js hi hj w => by
  match is, js, hi, hj with
  | [a0, a1], [b0, b1], _, _ =>
    have h := eqi_32 (10000 - 2) a0 a1 b0 b1 w
    refine h.trans ?_
    simp [Bool.decide_and, Bool.and_assoc]⟩
theorem eqi_63 (d : Nat) (a0 a1 b0 b1 : Int) (w : World) : (Op.equalIn (d + 2) 63 (.agg #[.int .i64 a0, .int .i64 a1]) (.agg #[.int .i64 b0, .int .i64 b1])).run Tryz.prog w = .ok (decide (a0 = b0) && (decide (a1 = b1) && true)) w := by
  rw [run_equalIn_struct w (d + 1) 63 _ _ (by kernel_rfl) (by kernel_rfl)]
  have h : (Tryz.prog.fieldsOf 63).toList.map (fun f => (f.name, f.type, f.offset)) = [("Label", 3, 0), ("At", 3, 1)] := by kernel_rfl
  generalize (Tryz.prog.fieldsOf 63).toList = fs at h
  have hl : fs.length = 2 := by simpa using congrArg List.length h
  match fs, hl, h with
  | [f0, f1], _, h =>
    simp only [List.map_cons, List.map_nil, List.cons.injEq, Prod.mk.injEq, and_true] at h
    obtain ⟨⟨n0, t0, o0⟩, n1, t1, o1⟩ := h
    exact (eqF_int (t := 3) _ _ _ w _ _ _ _ (by rw [n0]; decide) t0 (by rw [o0]; rfl) (by rw [o0]; rfl) _ (eqF_int (t := 3) _ _ _ w _ _ _ _ (by rw [n1]; decide) t1 (by rw [o1]; rfl) (by rw [o1]; rfl) _ (eqF_nil _ _ _ _)))
instance : TEqI Tryz.prog 63 2 := ⟨by kernel_rfl, fun is js hi hj w => by
  match is, js, hi, hj with
  | [a0, a1], [b0, b1], _, _ =>
    have h := eqi_63 (10000 - 2) a0 a1 b0 b1 w
    refine h.trans ?_
    simp [Bool.decide_and, Bool.and_assoc]⟩
theorem eqi_183 (d : Nat) (a0 a1 b0 b1 : Int) (w : World) : (Op.equalIn (d + 2) 183 (.agg #[.int .i64 a0, .int .i64 a1]) (.agg #[.int .i64 b0, .int .i64 b1])).run Tryz.prog w = .ok (decide (a0 = b0) && (decide (a1 = b1) && true)) w := by
  rw [run_equalIn_struct w (d + 1) 183 _ _ (by kernel_rfl) (by kernel_rfl)]
  have h : (Tryz.prog.fieldsOf 183).toList.map (fun f => (f.name, f.type, f.offset)) = [("Label", 3, 0), ("At", 3, 1)] := by kernel_rfl
  generalize (Tryz.prog.fieldsOf 183).toList = fs at h
  have hl : fs.length = 2 := by simpa using congrArg List.length h
  match fs, hl, h with
  | [f0, f1], _, h =>
    simp only [List.map_cons, List.map_nil, List.cons.injEq, Prod.mk.injEq, and_true] at h
    obtain ⟨⟨n0, t0, o0⟩, n1, t1, o1⟩ := h
    exact (eqF_int (t := 3) _ _ _ w _ _ _ _ (by rw [n0]; decide) t0 (by rw [o0]; rfl) (by rw [o0]; rfl) _ (eqF_int (t := 3) _ _ _ w _ _ _ _ (by rw [n1]; decide) t1 (by rw [o1]; rfl) (by rw [o1]; rfl) _ (eqF_nil _ _ _ _)))
instance : TEqI Tryz.prog 183 2 := ⟨by kernel_rfl, fun is js hi hj w => by
  match is, js, hi, hj with
  | [a0, a1], [b0, b1], _, _ =>
    have h := eqi_183 (10000 - 2) a0 a1 b0 b1 w
    refine h.trans ?_
    simp [Bool.decide_and, Bool.and_assoc]⟩
theorem eqi_26 (d : Nat) (a0 a1 a2 b0 b1 b2 : Int) (w : World) : (Op.equalIn (d + 3) 26 (.agg #[.int .i64 a0, .int .i64 a1, .int .i64 a2]) (.agg #[.int .i64 b0, .int .i64 b1, .int .i64 b2])).run Tryz.prog w = .ok (decide (a0 = b0) && ((decide (a1 = b1) && (decide (a2 = b2) && true)) && true)) w := by
  rw [run_equalIn_struct w (d + 2) 26 _ _ (by kernel_rfl) (by kernel_rfl)]
  have h : (Tryz.prog.fieldsOf 26).toList.map (fun f => (f.name, f.type, f.offset)) = [("Kind", 3, 0), ("Node", 24, 1)] := by kernel_rfl
  generalize (Tryz.prog.fieldsOf 26).toList = fs at h
  have hl : fs.length = 2 := by simpa using congrArg List.length h
  match fs, hl, h with
  | [f0, f1], _, h =>
    simp only [List.map_cons, List.map_nil, List.cons.injEq, Prod.mk.injEq, and_true] at h
    obtain ⟨⟨n0, t0, o0⟩, n1, t1, o1⟩ := h
    exact (eqF_int (t := 3) _ _ _ w _ _ _ _ (by rw [n0]; decide) t0 (by rw [o0]; rfl) (by rw [o0]; rfl) _ (eqF_agg (t := 24) _ _ _ w _ _ _ (by rw [n1]; decide) t1 (by rw [o1]; exact eqi_24 _ _ _ _ _ w) _ (eqF_nil _ _ _ _)))
instance : TEqI Tryz.prog 26 3 := ⟨by kernel_rfl, fun is js hi hj w => by
  match is, js, hi, hj with
  | [a0, a1, a2], [b0, b1, b2], _, _ =>
    have h := eqi_26 (10000 - 3) a0 a1 a2 b0 b1 b2 w
    refine h.trans ?_
    simp [Bool.decide_and, Bool.and_assoc]⟩
theorem eqi_34 (d : Nat) (a0 a1 a2 b0 b1 b2 : Int) (w : World) : (Op.equalIn (d + 3) 34 (.agg #[.int .i64 a0, .int .i64 a1, .int .i64 a2]) (.agg #[.int .i64 b0, .int .i64 b1, .int .i64 b2])).run Tryz.prog w = .ok (decide (a0 = b0) && ((decide (a1 = b1) && (decide (a2 = b2) && true)) && true)) w := by
  rw [run_equalIn_struct w (d + 2) 34 _ _ (by kernel_rfl) (by kernel_rfl)]
  have h : (Tryz.prog.fieldsOf 34).toList.map (fun f => (f.name, f.type, f.offset)) = [("Kind", 3, 0), ("Node", 32, 1)] := by kernel_rfl
  generalize (Tryz.prog.fieldsOf 34).toList = fs at h
  have hl : fs.length = 2 := by simpa using congrArg List.length h
  match fs, hl, h with
  | [f0, f1], _, h =>
    simp only [List.map_cons, List.map_nil, List.cons.injEq, Prod.mk.injEq, and_true] at h
    obtain ⟨⟨n0, t0, o0⟩, n1, t1, o1⟩ := h
    exact (eqF_int (t := 3) _ _ _ w _ _ _ _ (by rw [n0]; decide) t0 (by rw [o0]; rfl) (by rw [o0]; rfl) _ (eqF_agg (t := 32) _ _ _ w _ _ _ (by rw [n1]; decide) t1 (by rw [o1]; exact eqi_32 _ _ _ _ _ w) _ (eqF_nil _ _ _ _)))
instance : TEqI Tryz.prog 34 3 := ⟨by kernel_rfl, fun is js hi hj w => by
  match is, js, hi, hj with
  | [a0, a1, a2], [b0, b1, b2], _, _ =>
    have h := eqi_34 (10000 - 3) a0 a1 a2 b0 b1 b2 w
    refine h.trans ?_
    simp [Bool.decide_and, Bool.and_assoc]⟩
theorem eqi_84 (d : Nat) (a0 a1 a2 a3 a4 b0 b1 b2 b3 b4 : Int) (w : World) : (Op.equalIn (d + 3) 84 (.agg #[.int .i64 a0, .int .i64 a1, .int .i64 a2, .int .i64 a3, .int .i64 a4]) (.agg #[.int .i64 b0, .int .i64 b1, .int .i64 b2, .int .i64 b3, .int .i64 b4])).run Tryz.prog w = .ok (decide (a0 = b0) && ((decide (a1 = b1) && (decide (a2 = b2) && true)) && ((decide (a3 = b3) && (decide (a4 = b4) && true)) && true))) w := by
  rw [run_equalIn_struct w (d + 2) 84 _ _ (by kernel_rfl) (by kernel_rfl)]
  have h : (Tryz.prog.fieldsOf 84).toList.map (fun f => (f.name, f.type, f.offset)) = [("Label", 3, 0), ("A", 32, 1), ("B", 32, 3)] := by kernel_rfl
  generalize (Tryz.prog.fieldsOf 84).toList = fs at h
  have hl : fs.length = 3 := by simpa using congrArg List.length h
  match fs, hl, h with
  | [f0, f1, f2], _, h =>
    simp only [List.map_cons, List.map_nil, List.cons.injEq, Prod.mk.injEq, and_true] at h
    obtain ⟨⟨n0, t0, o0⟩, ⟨n1, t1, o1⟩, n2, t2, o2⟩ := h
    exact (eqF_int (t := 3) _ _ _ w _ _ _ _ (by rw [n0]; decide) t0 (by rw [o0]; rfl) (by rw [o0]; rfl) _ (eqF_agg (t := 32) _ _ _ w _ _ _ (by rw [n1]; decide) t1 (by rw [o1]; exact eqi_32 _ _ _ _ _ w) _ (eqF_agg (t := 32) _ _ _ w _ _ _ (by rw [n2]; decide) t2 (by rw [o2]; exact eqi_32 _ _ _ _ _ w) _ (eqF_nil _ _ _ _))))
instance : TEqI Tryz.prog 84 5 := ⟨by kernel_rfl, fun is js hi hj w => by
  match is, js, hi, hj with
  | [a0, a1, a2, a3, a4], [b0, b1, b2, b3, b4], _, _ =>
    have h := eqi_84 (10000 - 3) a0 a1 a2 a3 a4 b0 b1 b2 b3 b4 w
    refine h.trans ?_
    simp [Bool.decide_and, Bool.and_assoc]⟩
theorem eqi_86 (d : Nat) (a0 a1 a2 a3 a4 a5 a6 a7 b0 b1 b2 b3 b4 b5 b6 b7 : Int) (w : World) : (Op.equalIn (d + 4) 86 (.agg #[.int .i64 a0, .int .i64 a1, .int .i64 a2, .int .i64 a3, .int .i64 a4, .int .i64 a5, .int .i64 a6, .int .i64 a7]) (.agg #[.int .i64 b0, .int .i64 b1, .int .i64 b2, .int .i64 b3, .int .i64 b4, .int .i64 b5, .int .i64 b6, .int .i64 b7])).run Tryz.prog w = .ok (decide (a0 = b0) && ((decide (a1 = b1) && (decide (a2 = b2) && true)) && ((decide (a3 = b3) && ((decide (a4 = b4) && (decide (a5 = b5) && true)) && ((decide (a6 = b6) && (decide (a7 = b7) && true)) && true))) && true))) w := by
  rw [run_equalIn_struct w (d + 3) 86 _ _ (by kernel_rfl) (by kernel_rfl)]
  have h : (Tryz.prog.fieldsOf 86).toList.map (fun f => (f.name, f.type, f.offset)) = [("Kind", 3, 0), ("Node", 32, 1), ("Edge", 84, 3)] := by kernel_rfl
  generalize (Tryz.prog.fieldsOf 86).toList = fs at h
  have hl : fs.length = 3 := by simpa using congrArg List.length h
  match fs, hl, h with
  | [f0, f1, f2], _, h =>
    simp only [List.map_cons, List.map_nil, List.cons.injEq, Prod.mk.injEq, and_true] at h
    obtain ⟨⟨n0, t0, o0⟩, ⟨n1, t1, o1⟩, n2, t2, o2⟩ := h
    exact (eqF_int (t := 3) _ _ _ w _ _ _ _ (by rw [n0]; decide) t0 (by rw [o0]; rfl) (by rw [o0]; rfl) _ (eqF_agg (t := 32) _ _ _ w _ _ _ (by rw [n1]; decide) t1 (by rw [o1]; exact eqi_32 _ _ _ _ _ w) _ (eqF_agg (t := 84) _ _ _ w _ _ _ (by rw [n2]; decide) t2 (by rw [o2]; exact eqi_84 _ _ _ _ _ _ _ _ _ _ _ w) _ (eqF_nil _ _ _ _))))
instance : TEqI Tryz.prog 86 8 := ⟨by kernel_rfl, fun is js hi hj w => by
  match is, js, hi, hj with
  | [a0, a1, a2, a3, a4, a5, a6, a7], [b0, b1, b2, b3, b4, b5, b6, b7], _, _ =>
    have h := eqi_86 (10000 - 4) a0 a1 a2 a3 a4 a5 a6 a7 b0 b1 b2 b3 b4 b5 b6 b7 w
    refine h.trans ?_
    simp [Bool.decide_and, Bool.and_assoc]⟩
instance : FnOk Tryz.prog 2 := ⟨⟨_, Tryz.func2, rfl, beq_eq_false_iff_ne.1 (by kernel_rfl)⟩⟩
instance : FnOk Tryz.prog 3 := ⟨⟨_, Tryz.func3, rfl, beq_eq_false_iff_ne.1 (by kernel_rfl)⟩⟩
instance : FnOk Tryz.prog 4 := ⟨⟨_, Tryz.func4, rfl, beq_eq_false_iff_ne.1 (by kernel_rfl)⟩⟩
instance : FnOk Tryz.prog 5 := ⟨⟨_, Tryz.func5, rfl, beq_eq_false_iff_ne.1 (by kernel_rfl)⟩⟩
instance : FnOk Tryz.prog 6 := ⟨⟨_, Tryz.func6, rfl, beq_eq_false_iff_ne.1 (by kernel_rfl)⟩⟩
instance : FnOk Tryz.prog 7 := ⟨⟨_, Tryz.func7, rfl, beq_eq_false_iff_ne.1 (by kernel_rfl)⟩⟩
instance : FnOk Tryz.prog 8 := ⟨⟨_, Tryz.func8, rfl, beq_eq_false_iff_ne.1 (by kernel_rfl)⟩⟩
instance : FnOk Tryz.prog 9 := ⟨⟨_, Tryz.func9, rfl, beq_eq_false_iff_ne.1 (by kernel_rfl)⟩⟩
instance : FnOk Tryz.prog 10 := ⟨⟨_, Tryz.func10, rfl, beq_eq_false_iff_ne.1 (by kernel_rfl)⟩⟩
instance : FnOk Tryz.prog 11 := ⟨⟨_, Tryz.func11, rfl, beq_eq_false_iff_ne.1 (by kernel_rfl)⟩⟩
instance : FnOk Tryz.prog 12 := ⟨⟨_, Tryz.func12, rfl, beq_eq_false_iff_ne.1 (by kernel_rfl)⟩⟩
instance : FnOk Tryz.prog 13 := ⟨⟨_, Tryz.func13, rfl, beq_eq_false_iff_ne.1 (by kernel_rfl)⟩⟩
instance : FnOk Tryz.prog 14 := ⟨⟨_, Tryz.func14, rfl, beq_eq_false_iff_ne.1 (by kernel_rfl)⟩⟩
instance : FnOk Tryz.prog 15 := ⟨⟨_, Tryz.func15, rfl, beq_eq_false_iff_ne.1 (by kernel_rfl)⟩⟩
instance : FnOk Tryz.prog 16 := ⟨⟨_, Tryz.func16, rfl, beq_eq_false_iff_ne.1 (by kernel_rfl)⟩⟩
instance : FnOk Tryz.prog 17 := ⟨⟨_, Tryz.func17, rfl, beq_eq_false_iff_ne.1 (by kernel_rfl)⟩⟩
instance : FnOk Tryz.prog 18 := ⟨⟨_, Tryz.func18, rfl, beq_eq_false_iff_ne.1 (by kernel_rfl)⟩⟩
instance : FnOk Tryz.prog 19 := ⟨⟨_, Tryz.func19, rfl, beq_eq_false_iff_ne.1 (by kernel_rfl)⟩⟩
instance : FnOk Tryz.prog 20 := ⟨⟨_, Tryz.func20, rfl, beq_eq_false_iff_ne.1 (by kernel_rfl)⟩⟩
instance : FnOk Tryz.prog 21 := ⟨⟨_, Tryz.func21, rfl, beq_eq_false_iff_ne.1 (by kernel_rfl)⟩⟩
instance : FnOk Tryz.prog 22 := ⟨⟨_, Tryz.func22, rfl, beq_eq_false_iff_ne.1 (by kernel_rfl)⟩⟩
instance : FnOk Tryz.prog 23 := ⟨⟨_, Tryz.func23, rfl, beq_eq_false_iff_ne.1 (by kernel_rfl)⟩⟩
instance : FnOk Tryz.prog 24 := ⟨⟨_, Tryz.func24, rfl, beq_eq_false_iff_ne.1 (by kernel_rfl)⟩⟩
instance : FnOk Tryz.prog 25 := ⟨⟨_, Tryz.func25, rfl, beq_eq_false_iff_ne.1 (by kernel_rfl)⟩⟩
instance : FnOk Tryz.prog 26 := ⟨⟨_, Tryz.func26, rfl, beq_eq_false_iff_ne.1 (by kernel_rfl)⟩⟩
instance : FnOk Tryz.prog 27 := ⟨⟨_, Tryz.func27, rfl, beq_eq_false_iff_ne.1 (by kernel_rfl)⟩⟩
instance : FnOk Tryz.prog 28 := ⟨⟨_, Tryz.func28, rfl, beq_eq_false_iff_ne.1 (by kernel_rfl)⟩⟩
instance : FnOk Tryz.prog 29 := ⟨⟨_, Tryz.func29, rfl, beq_eq_false_iff_ne.1 (by kernel_rfl)⟩⟩
instance : FnOk Tryz.prog 30 := ⟨⟨_, Tryz.func30, rfl, beq_eq_false_iff_ne.1 (by kernel_rfl)⟩⟩
instance : FnOk Tryz.prog 31 := ⟨⟨_, Tryz.func31, rfl, beq_eq_false_iff_ne.1 (by kernel_rfl)⟩⟩
instance : FnOk Tryz.prog 32 := ⟨⟨_, Tryz.func32, rfl, beq_eq_false_iff_ne.1 (by kernel_rfl)⟩⟩
instance : FnOk Tryz.prog 33 := ⟨⟨_, Tryz.func33, rfl, beq_eq_false_iff_ne.1 (by kernel_rfl)⟩⟩
instance : FnOk Tryz.prog 34 := ⟨⟨_, Tryz.func34, rfl, beq_eq_false_iff_ne.1 (by kernel_rfl)⟩⟩
instance : FnOk Tryz.prog 35 := ⟨⟨_, Tryz.func35, rfl, beq_eq_false_iff_ne.1 (by kernel_rfl)⟩⟩
instance : FnOk Tryz.prog 36 := ⟨⟨_, Tryz.func36, rfl, beq_eq_false_iff_ne.1 (by kernel_rfl)⟩⟩
instance : FnOk Tryz.prog 37 := ⟨⟨_, Tryz.func37, rfl, beq_eq_false_iff_ne.1 (by kernel_rfl)⟩⟩
instance : FnOk Tryz.prog 38 := ⟨⟨_, Tryz.func38, rfl, beq_eq_false_iff_ne.1 (by kernel_rfl)⟩⟩
instance : FnOk Tryz.prog 39 := ⟨⟨_, Tryz.func39, rfl, beq_eq_false_iff_ne.1 (by kernel_rfl)⟩⟩
instance : FnOk Tryz.prog 40 := ⟨⟨_, Tryz.func40, rfl, beq_eq_false_iff_ne.1 (by kernel_rfl)⟩⟩
instance : FnOk Tryz.prog 41 := ⟨⟨_, Tryz.func41, rfl, beq_eq_false_iff_ne.1 (by kernel_rfl)⟩⟩
instance : FnOk Tryz.prog 42 := ⟨⟨_, Tryz.func42, rfl, beq_eq_false_iff_ne.1 (by kernel_rfl)⟩⟩
instance : FnOk Tryz.prog 43 := ⟨⟨_, Tryz.func43, rfl, beq_eq_false_iff_ne.1 (by kernel_rfl)⟩⟩
instance : FnOk Tryz.prog 44 := ⟨⟨_, Tryz.func44, rfl, beq_eq_false_iff_ne.1 (by kernel_rfl)⟩⟩
instance : FnOk Tryz.prog 45 := ⟨⟨_, Tryz.func45, rfl, beq_eq_false_iff_ne.1 (by kernel_rfl)⟩⟩
instance : FnOk Tryz.prog 46 := ⟨⟨_, Tryz.func46, rfl, beq_eq_false_iff_ne.1 (by kernel_rfl)⟩⟩
instance : FnOk Tryz.prog 47 := ⟨⟨_, Tryz.func47, rfl, beq_eq_false_iff_ne.1 (by kernel_rfl)⟩⟩
instance : FnOk Tryz.prog 48 := ⟨⟨_, Tryz.func48, rfl, beq_eq_false_iff_ne.1 (by kernel_rfl)⟩⟩
instance : FnOk Tryz.prog 49 := ⟨⟨_, Tryz.func49, rfl, beq_eq_false_iff_ne.1 (by kernel_rfl)⟩⟩
instance : FnOk Tryz.prog 50 := ⟨⟨_, Tryz.func50, rfl, beq_eq_false_iff_ne.1 (by kernel_rfl)⟩⟩
instance : FnOk Tryz.prog 51 := ⟨⟨_, Tryz.func51, rfl, beq_eq_false_iff_ne.1 (by kernel_rfl)⟩⟩
instance : FnOk Tryz.prog 52 := ⟨⟨_, Tryz.func52, rfl, beq_eq_false_iff_ne.1 (by kernel_rfl)⟩⟩
instance : FnOk Tryz.prog 53 := ⟨⟨_, Tryz.func53, rfl, beq_eq_false_iff_ne.1 (by kernel_rfl)⟩⟩
instance : FnOk Tryz.prog 54 := ⟨⟨_, Tryz.func54, rfl, beq_eq_false_iff_ne.1 (by kernel_rfl)⟩⟩
instance : FnOk Tryz.prog 55 := ⟨⟨_, Tryz.func55, rfl, beq_eq_false_iff_ne.1 (by kernel_rfl)⟩⟩
instance : FnOk Tryz.prog 56 := ⟨⟨_, Tryz.func56, rfl, beq_eq_false_iff_ne.1 (by kernel_rfl)⟩⟩
instance : FnOk Tryz.prog 57 := ⟨⟨_, Tryz.func57, rfl, beq_eq_false_iff_ne.1 (by kernel_rfl)⟩⟩
instance : FnOk Tryz.prog 58 := ⟨⟨_, Tryz.func58, rfl, beq_eq_false_iff_ne.1 (by kernel_rfl)⟩⟩
instance : FnOk Tryz.prog 59 := ⟨⟨_, Tryz.func59, rfl, beq_eq_false_iff_ne.1 (by kernel_rfl)⟩⟩
instance : FnOk Tryz.prog 60 := ⟨⟨_, Tryz.func60, rfl, beq_eq_false_iff_ne.1 (by kernel_rfl)⟩⟩
instance : FnOk Tryz.prog 61 := ⟨⟨_, Tryz.func61, rfl, beq_eq_false_iff_ne.1 (by kernel_rfl)⟩⟩
instance : FnOk Tryz.prog 62 := ⟨⟨_, Tryz.func62, rfl, beq_eq_false_iff_ne.1 (by kernel_rfl)⟩⟩
instance : FnOk Tryz.prog 63 := ⟨⟨_, Tryz.func63, rfl, beq_eq_false_iff_ne.1 (by kernel_rfl)⟩⟩
instance : FnOk Tryz.prog 64 := ⟨⟨_, Tryz.func64, rfl, beq_eq_false_iff_ne.1 (by kernel_rfl)⟩⟩
instance : FnOk Tryz.prog 65 := ⟨⟨_, Tryz.func65, rfl, beq_eq_false_iff_ne.1 (by kernel_rfl)⟩⟩
instance : FnOk Tryz.prog 66 := ⟨⟨_, Tryz.func66, rfl, beq_eq_false_iff_ne.1 (by kernel_rfl)⟩⟩
instance : FnOk Tryz.prog 67 := ⟨⟨_, Tryz.func67, rfl, beq_eq_false_iff_ne.1 (by kernel_rfl)⟩⟩
instance : FnOk Tryz.prog 68 := ⟨⟨_, Tryz.func68, rfl, beq_eq_false_iff_ne.1 (by kernel_rfl)⟩⟩
instance : FnOk Tryz.prog 69 := ⟨⟨_, Tryz.func69, rfl, beq_eq_false_iff_ne.1 (by kernel_rfl)⟩⟩
instance : FnOk Tryz.prog 70 := ⟨⟨_, Tryz.func70, rfl, beq_eq_false_iff_ne.1 (by kernel_rfl)⟩⟩
instance : FnOk Tryz.prog 71 := ⟨⟨_, Tryz.func71, rfl, beq_eq_false_iff_ne.1 (by kernel_rfl)⟩⟩
instance : FnOk Tryz.prog 72 := ⟨⟨_, Tryz.func72, rfl, beq_eq_false_iff_ne.1 (by kernel_rfl)⟩⟩
instance : FnOk Tryz.prog 73 := ⟨⟨_, Tryz.func73, rfl, beq_eq_false_iff_ne.1 (by kernel_rfl)⟩⟩
instance : FnOk Tryz.prog 74 := ⟨⟨_, Tryz.func74, rfl, beq_eq_false_iff_ne.1 (by kernel_rfl)⟩⟩
instance : FnOk Tryz.prog 75 := ⟨⟨_, Tryz.func75, rfl, beq_eq_false_iff_ne.1 (by kernel_rfl)⟩⟩
instance : FnOk Tryz.prog 76 := ⟨⟨_, Tryz.func76, rfl, beq_eq_false_iff_ne.1 (by kernel_rfl)⟩⟩
instance : FnOk Tryz.prog 77 := ⟨⟨_, Tryz.func77, rfl, beq_eq_false_iff_ne.1 (by kernel_rfl)⟩⟩
instance : FnOk Tryz.prog 78 := ⟨⟨_, Tryz.func78, rfl, beq_eq_false_iff_ne.1 (by kernel_rfl)⟩⟩
instance : FnOk Tryz.prog 79 := ⟨⟨_, Tryz.func79, rfl, beq_eq_false_iff_ne.1 (by kernel_rfl)⟩⟩
instance : FnOk Tryz.prog 80 := ⟨⟨_, Tryz.func80, rfl, beq_eq_false_iff_ne.1 (by kernel_rfl)⟩⟩
instance : FnOk Tryz.prog 81 := ⟨⟨_, Tryz.func81, rfl, beq_eq_false_iff_ne.1 (by kernel_rfl)⟩⟩
instance : FnOk Tryz.prog 82 := ⟨⟨_, Tryz.func82, rfl, beq_eq_false_iff_ne.1 (by kernel_rfl)⟩⟩
instance : FnOk Tryz.prog 83 := ⟨⟨_, Tryz.func83, rfl, beq_eq_false_iff_ne.1 (by kernel_rfl)⟩⟩
instance : FnOk Tryz.prog 84 := ⟨⟨_, Tryz.func84, rfl, beq_eq_false_iff_ne.1 (by kernel_rfl)⟩⟩
instance : FnOk Tryz.prog 85 := ⟨⟨_, Tryz.func85, rfl, beq_eq_false_iff_ne.1 (by kernel_rfl)⟩⟩
instance : FnOk Tryz.prog 86 := ⟨⟨_, Tryz.func86, rfl, beq_eq_false_iff_ne.1 (by kernel_rfl)⟩⟩
instance : FnOk Tryz.prog 87 := ⟨⟨_, Tryz.func87, rfl, beq_eq_false_iff_ne.1 (by kernel_rfl)⟩⟩
instance : FnOk Tryz.prog 88 := ⟨⟨_, Tryz.func88, rfl, beq_eq_false_iff_ne.1 (by kernel_rfl)⟩⟩
instance : FnOk Tryz.prog 89 := ⟨⟨_, Tryz.func89, rfl, beq_eq_false_iff_ne.1 (by kernel_rfl)⟩⟩
instance : FnOk Tryz.prog 90 := ⟨⟨_, Tryz.func90, rfl, beq_eq_false_iff_ne.1 (by kernel_rfl)⟩⟩
instance : FnOk Tryz.prog 91 := ⟨⟨_, Tryz.func91, rfl, beq_eq_false_iff_ne.1 (by kernel_rfl)⟩⟩
instance : FnOk Tryz.prog 92 := ⟨⟨_, Tryz.func92, rfl, beq_eq_false_iff_ne.1 (by kernel_rfl)⟩⟩
instance : FnOk Tryz.prog 93 := ⟨⟨_, Tryz.func93, rfl, beq_eq_false_iff_ne.1 (by kernel_rfl)⟩⟩
instance : FnOk Tryz.prog 94 := ⟨⟨_, Tryz.func94, rfl, beq_eq_false_iff_ne.1 (by kernel_rfl)⟩⟩
instance : FnOk Tryz.prog 95 := ⟨⟨_, Tryz.func95, rfl, beq_eq_false_iff_ne.1 (by kernel_rfl)⟩⟩
instance : FnOk Tryz.prog 96 := ⟨⟨_, Tryz.func96, rfl, beq_eq_false_iff_ne.1 (by kernel_rfl)⟩⟩
instance : FnOk Tryz.prog 97 := ⟨⟨_, Tryz.func97, rfl, beq_eq_false_iff_ne.1 (by kernel_rfl)⟩⟩
instance : FnOk Tryz.prog 98 := ⟨⟨_, Tryz.func98, rfl, beq_eq_false_iff_ne.1 (by kernel_rfl)⟩⟩
instance : FnOk Tryz.prog 99 := ⟨⟨_, Tryz.func99, rfl, beq_eq_false_iff_ne.1 (by kernel_rfl)⟩⟩
instance : FnOk Tryz.prog 100 := ⟨⟨_, Tryz.func100, rfl, beq_eq_false_iff_ne.1 (by kernel_rfl)⟩⟩
instance : FnOk Tryz.prog 101 := ⟨⟨_, Tryz.func101, rfl, beq_eq_false_iff_ne.1 (by kernel_rfl)⟩⟩
instance : FnOk Tryz.prog 102 := ⟨⟨_, Tryz.func102, rfl, beq_eq_false_iff_ne.1 (by kernel_rfl)⟩⟩
instance : FnOk Tryz.prog 103 := ⟨⟨_, Tryz.func103, rfl, beq_eq_false_iff_ne.1 (by kernel_rfl)⟩⟩
instance : FnOk Tryz.prog 104 := ⟨⟨_, Tryz.func104, rfl, beq_eq_false_iff_ne.1 (by kernel_rfl)⟩⟩
instance : FnOk Tryz.prog 105 := ⟨⟨_, Tryz.func105, rfl, beq_eq_false_iff_ne.1 (by kernel_rfl)⟩⟩
instance : FnOk Tryz.prog 106 := ⟨⟨_, Tryz.func106, rfl, beq_eq_false_iff_ne.1 (by kernel_rfl)⟩⟩
instance : FnOk Tryz.prog 107 := ⟨⟨_, Tryz.func107, rfl, beq_eq_false_iff_ne.1 (by kernel_rfl)⟩⟩
instance : FnOk Tryz.prog 108 := ⟨⟨_, Tryz.func108, rfl, beq_eq_false_iff_ne.1 (by kernel_rfl)⟩⟩
instance : FnOk Tryz.prog 109 := ⟨⟨_, Tryz.func109, rfl, beq_eq_false_iff_ne.1 (by kernel_rfl)⟩⟩
instance : FnOk Tryz.prog 110 := ⟨⟨_, Tryz.func110, rfl, beq_eq_false_iff_ne.1 (by kernel_rfl)⟩⟩
instance : FnOk Tryz.prog 111 := ⟨⟨_, Tryz.func111, rfl, beq_eq_false_iff_ne.1 (by kernel_rfl)⟩⟩
instance : FnOk Tryz.prog 112 := ⟨⟨_, Tryz.func112, rfl, beq_eq_false_iff_ne.1 (by kernel_rfl)⟩⟩
instance : FnOk Tryz.prog 113 := ⟨⟨_, Tryz.func113, rfl, beq_eq_false_iff_ne.1 (by kernel_rfl)⟩⟩
instance : FnOk Tryz.prog 114 := ⟨⟨_, Tryz.func114, rfl, beq_eq_false_iff_ne.1 (by kernel_rfl)⟩⟩
instance : FnOk Tryz.prog 115 := ⟨⟨_, Tryz.func115, rfl, beq_eq_false_iff_ne.1 (by kernel_rfl)⟩⟩
instance : FnOk Tryz.prog 116 := ⟨⟨_, Tryz.func116, rfl, beq_eq_false_iff_ne.1 (by kernel_rfl)⟩⟩
instance : FnOk Tryz.prog 117 := ⟨⟨_, Tryz.func117, rfl, beq_eq_false_iff_ne.1 (by kernel_rfl)⟩⟩
instance : FnOk Tryz.prog 118 := ⟨⟨_, Tryz.func118, rfl, beq_eq_false_iff_ne.1 (by kernel_rfl)⟩⟩
instance : FnOk Tryz.prog 119 := ⟨⟨_, Tryz.func119, rfl, beq_eq_false_iff_ne.1 (by kernel_rfl)⟩⟩
instance : FnOk Tryz.prog 120 := ⟨⟨_, Tryz.func120, rfl, beq_eq_false_iff_ne.1 (by kernel_rfl)⟩⟩
instance : FnOk Tryz.prog 121 := ⟨⟨_, Tryz.func121, rfl, beq_eq_false_iff_ne.1 (by kernel_rfl)⟩⟩
instance : FnOk Tryz.prog 122 := ⟨⟨_, Tryz.func122, rfl, beq_eq_false_iff_ne.1 (by kernel_rfl)⟩⟩
instance : FnOk Tryz.prog 123 := ⟨⟨_, Tryz.func123, rfl, beq_eq_false_iff_ne.1 (by kernel_rfl)⟩⟩
instance : FnOk Tryz.prog 124 := ⟨⟨_, Tryz.func124, rfl, beq_eq_false_iff_ne.1 (by kernel_rfl)⟩⟩
instance : FnOk Tryz.prog 125 := ⟨⟨_, Tryz.func125, rfl, beq_eq_false_iff_ne.1 (by kernel_rfl)⟩⟩
instance : FnOk Tryz.prog 126 := ⟨⟨_, Tryz.func126, rfl, beq_eq_false_iff_ne.1 (by kernel_rfl)⟩⟩
instance : FnOk Tryz.prog 127 := ⟨⟨_, Tryz.func127, rfl, beq_eq_false_iff_ne.1 (by kernel_rfl)⟩⟩
instance : FnOk Tryz.prog 128 := ⟨⟨_, Tryz.func128, rfl, beq_eq_false_iff_ne.1 (by kernel_rfl)⟩⟩
instance : FnOk Tryz.prog 129 := ⟨⟨_, Tryz.func129, rfl, beq_eq_false_iff_ne.1 (by kernel_rfl)⟩⟩
instance : FnOk Tryz.prog 130 := ⟨⟨_, Tryz.func130, rfl, beq_eq_false_iff_ne.1 (by kernel_rfl)⟩⟩
instance : FnOk Tryz.prog 131 := ⟨⟨_, Tryz.func131, rfl, beq_eq_false_iff_ne.1 (by kernel_rfl)⟩⟩
instance : FnOk Tryz.prog 132 := ⟨⟨_, Tryz.func132, rfl, beq_eq_false_iff_ne.1 (by kernel_rfl)⟩⟩
instance : FnOk Tryz.prog 133 := ⟨⟨_, Tryz.func133, rfl, beq_eq_false_iff_ne.1 (by kernel_rfl)⟩⟩
instance : FnOk Tryz.prog 134 := ⟨⟨_, Tryz.func134, rfl, beq_eq_false_iff_ne.1 (by kernel_rfl)⟩⟩
instance : FnOk Tryz.prog 135 := ⟨⟨_, Tryz.func135, rfl, beq_eq_false_iff_ne.1 (by kernel_rfl)⟩⟩
instance : FnOk Tryz.prog 136 := ⟨⟨_, Tryz.func136, rfl, beq_eq_false_iff_ne.1 (by kernel_rfl)⟩⟩
instance : FnOk Tryz.prog 137 := ⟨⟨_, Tryz.func137, rfl, beq_eq_false_iff_ne.1 (by kernel_rfl)⟩⟩
instance : FnOk Tryz.prog 138 := ⟨⟨_, Tryz.func138, rfl, beq_eq_false_iff_ne.1 (by kernel_rfl)⟩⟩
instance : FnOk Tryz.prog 139 := ⟨⟨_, Tryz.func139, rfl, beq_eq_false_iff_ne.1 (by kernel_rfl)⟩⟩
instance : FnOk Tryz.prog 140 := ⟨⟨_, Tryz.func140, rfl, beq_eq_false_iff_ne.1 (by kernel_rfl)⟩⟩
instance : FnOk Tryz.prog 141 := ⟨⟨_, Tryz.func141, rfl, beq_eq_false_iff_ne.1 (by kernel_rfl)⟩⟩
instance : FnOk Tryz.prog 142 := ⟨⟨_, Tryz.func142, rfl, beq_eq_false_iff_ne.1 (by kernel_rfl)⟩⟩
instance : FnOk Tryz.prog 143 := ⟨⟨_, Tryz.func143, rfl, beq_eq_false_iff_ne.1 (by kernel_rfl)⟩⟩
instance : FnOk Tryz.prog 144 := ⟨⟨_, Tryz.func144, rfl, beq_eq_false_iff_ne.1 (by kernel_rfl)⟩⟩
instance : FnOk Tryz.prog 145 := ⟨⟨_, Tryz.func145, rfl, beq_eq_false_iff_ne.1 (by kernel_rfl)⟩⟩
instance : FnOk Tryz.prog 146 := ⟨⟨_, Tryz.func146, rfl, beq_eq_false_iff_ne.1 (by kernel_rfl)⟩⟩
instance : FnOk Tryz.prog 147 := ⟨⟨_, Tryz.func147, rfl, beq_eq_false_iff_ne.1 (by kernel_rfl)⟩⟩
instance : FnOk Tryz.prog 148 := ⟨⟨_, Tryz.func148, rfl, beq_eq_false_iff_ne.1 (by kernel_rfl)⟩⟩
instance : FnOk Tryz.prog 149 := ⟨⟨_, Tryz.func149, rfl, beq_eq_false_iff_ne.1 (by kernel_rfl)⟩⟩
instance : FnOk Tryz.prog 150 := ⟨⟨_, Tryz.func150, rfl, beq_eq_false_iff_ne.1 (by kernel_rfl)⟩⟩
instance : FnOk Tryz.prog 151 := ⟨⟨_, Tryz.func151, rfl, beq_eq_false_iff_ne.1 (by kernel_rfl)⟩⟩
instance : FnOk Tryz.prog 152 := ⟨⟨_, Tryz.func152, rfl, beq_eq_false_iff_ne.1 (by kernel_rfl)⟩⟩
instance : FnOk Tryz.prog 153 := ⟨⟨_, Tryz.func153, rfl, beq_eq_false_iff_ne.1 (by kernel_rfl)⟩⟩
instance : FnOk Tryz.prog 154 := ⟨⟨_, Tryz.func154, rfl, beq_eq_false_iff_ne.1 (by kernel_rfl)⟩⟩
instance : FnOk Tryz.prog 155 := ⟨⟨_, Tryz.func155, rfl, beq_eq_false_iff_ne.1 (by kernel_rfl)⟩⟩
instance : FnOk Tryz.prog 156 := ⟨⟨_, Tryz.func156, rfl, beq_eq_false_iff_ne.1 (by kernel_rfl)⟩⟩
instance : FnOk Tryz.prog 157 := ⟨⟨_, Tryz.func157, rfl, beq_eq_false_iff_ne.1 (by kernel_rfl)⟩⟩
instance : FnOk Tryz.prog 158 := ⟨⟨_, Tryz.func158, rfl, beq_eq_false_iff_ne.1 (by kernel_rfl)⟩⟩
instance : FnOk Tryz.prog 159 := ⟨⟨_, Tryz.func159, rfl, beq_eq_false_iff_ne.1 (by kernel_rfl)⟩⟩
instance : FnOk Tryz.prog 160 := ⟨⟨_, Tryz.func160, rfl, beq_eq_false_iff_ne.1 (by kernel_rfl)⟩⟩
instance : FnOk Tryz.prog 161 := ⟨⟨_, Tryz.func161, rfl, beq_eq_false_iff_ne.1 (by kernel_rfl)⟩⟩
instance : FnOk Tryz.prog 162 := ⟨⟨_, Tryz.func162, rfl, beq_eq_false_iff_ne.1 (by kernel_rfl)⟩⟩
instance : FnOk Tryz.prog 163 := ⟨⟨_, Tryz.func163, rfl, beq_eq_false_iff_ne.1 (by kernel_rfl)⟩⟩
instance : FnOk Tryz.prog 164 := ⟨⟨_, Tryz.func164, rfl, beq_eq_false_iff_ne.1 (by kernel_rfl)⟩⟩
instance : FnOk Tryz.prog 165 := ⟨⟨_, Tryz.func165, rfl, beq_eq_false_iff_ne.1 (by kernel_rfl)⟩⟩
instance : FnOk Tryz.prog 166 := ⟨⟨_, Tryz.func166, rfl, beq_eq_false_iff_ne.1 (by kernel_rfl)⟩⟩
instance : FnOk Tryz.prog 167 := ⟨⟨_, Tryz.func167, rfl, beq_eq_false_iff_ne.1 (by kernel_rfl)⟩⟩
instance : FnOk Tryz.prog 168 := ⟨⟨_, Tryz.func168, rfl, beq_eq_false_iff_ne.1 (by kernel_rfl)⟩⟩
instance : FnOk Tryz.prog 169 := ⟨⟨_, Tryz.func169, rfl, beq_eq_false_iff_ne.1 (by kernel_rfl)⟩⟩
instance : FnOk Tryz.prog 170 := ⟨⟨_, Tryz.func170, rfl, beq_eq_false_iff_ne.1 (by kernel_rfl)⟩⟩
instance : FnOk Tryz.prog 171 := ⟨⟨_, Tryz.func171, rfl, beq_eq_false_iff_ne.1 (by kernel_rfl)⟩⟩
instance : FnOk Tryz.prog 172 := ⟨⟨_, Tryz.func172, rfl, beq_eq_false_iff_ne.1 (by kernel_rfl)⟩⟩
instance : FnOk Tryz.prog 173 := ⟨⟨_, Tryz.func173, rfl, beq_eq_false_iff_ne.1 (by kernel_rfl)⟩⟩
instance : FnOk Tryz.prog 174 := ⟨⟨_, Tryz.func174, rfl, beq_eq_false_iff_ne.1 (by kernel_rfl)⟩⟩
instance : FnOk Tryz.prog 175 := ⟨⟨_, Tryz.func175, rfl, beq_eq_false_iff_ne.1 (by kernel_rfl)⟩⟩
instance : FnOk Tryz.prog 176 := ⟨⟨_, Tryz.func176, rfl, beq_eq_false_iff_ne.1 (by kernel_rfl)⟩⟩
instance : FnOk Tryz.prog 177 := ⟨⟨_, Tryz.func177, rfl, beq_eq_false_iff_ne.1 (by kernel_rfl)⟩⟩
instance : FnOk Tryz.prog 178 := ⟨⟨_, Tryz.func178, rfl, beq_eq_false_iff_ne.1 (by kernel_rfl)⟩⟩
instance : FnOk Tryz.prog 179 := ⟨⟨_, Tryz.func179, rfl, beq_eq_false_iff_ne.1 (by kernel_rfl)⟩⟩
instance : FnOk Tryz.prog 180 := ⟨⟨_, Tryz.func180, rfl, beq_eq_false_iff_ne.1 (by kernel_rfl)⟩⟩
instance : FnOk Tryz.prog 181 := ⟨⟨_, Tryz.func181, rfl, beq_eq_false_iff_ne.1 (by kernel_rfl)⟩⟩
instance : FnOk Tryz.prog 182 := ⟨⟨_, Tryz.func182, rfl, beq_eq_false_iff_ne.1 (by kernel_rfl)⟩⟩
instance : FnOk Tryz.prog 183 := ⟨⟨_, Tryz.func183, rfl, beq_eq_false_iff_ne.1 (by kernel_rfl)⟩⟩
instance : FnOk Tryz.prog 184 := ⟨⟨_, Tryz.func184, rfl, beq_eq_false_iff_ne.1 (by kernel_rfl)⟩⟩
instance : FnOk Tryz.prog 185 := ⟨⟨_, Tryz.func185, rfl, beq_eq_false_iff_ne.1 (by kernel_rfl)⟩⟩
instance : FnOk Tryz.prog 186 := ⟨⟨_, Tryz.func186, rfl, beq_eq_false_iff_ne.1 (by kernel_rfl)⟩⟩
instance : FnOk Tryz.prog 187 := ⟨⟨_, Tryz.func187, rfl, beq_eq_false_iff_ne.1 (by kernel_rfl)⟩⟩
instance : FnOk Tryz.prog 188 := ⟨⟨_, Tryz.func188, rfl, beq_eq_false_iff_ne.1 (by kernel_rfl)⟩⟩
instance : FnOk Tryz.prog 189 := ⟨⟨_, Tryz.func189, rfl, beq_eq_false_iff_ne.1 (by kernel_rfl)⟩⟩
instance : FnOk Tryz.prog 190 := ⟨⟨_, Tryz.func190, rfl, beq_eq_false_iff_ne.1 (by kernel_rfl)⟩⟩
instance : FnOk Tryz.prog 191 := ⟨⟨_, Tryz.func191, rfl, beq_eq_false_iff_ne.1 (by kernel_rfl)⟩⟩
instance : FnOk Tryz.prog 192 := ⟨⟨_, Tryz.func192, rfl, beq_eq_false_iff_ne.1 (by kernel_rfl)⟩⟩
instance : FnOk Tryz.prog 193 := ⟨⟨_, Tryz.func193, rfl, beq_eq_false_iff_ne.1 (by kernel_rfl)⟩⟩
instance : FnOk Tryz.prog 194 := ⟨⟨_, Tryz.func194, rfl, beq_eq_false_iff_ne.1 (by kernel_rfl)⟩⟩
instance : FnOk Tryz.prog 195 := ⟨⟨_, Tryz.func195, rfl, beq_eq_false_iff_ne.1 (by kernel_rfl)⟩⟩
instance : FnOk Tryz.prog 196 := ⟨⟨_, Tryz.func196, rfl, beq_eq_false_iff_ne.1 (by kernel_rfl)⟩⟩
instance : FnOk Tryz.prog 197 := ⟨⟨_, Tryz.func197, rfl, beq_eq_false_iff_ne.1 (by kernel_rfl)⟩⟩
instance : FnOk Tryz.prog 199 := ⟨⟨_, Tryz.func199, rfl, beq_eq_false_iff_ne.1 (by kernel_rfl)⟩⟩
instance : FnOk Tryz.prog 200 := ⟨⟨_, Tryz.func200, rfl, beq_eq_false_iff_ne.1 (by kernel_rfl)⟩⟩
instance : FnOk Tryz.prog 201 := ⟨⟨_, Tryz.func201, rfl, beq_eq_false_iff_ne.1 (by kernel_rfl)⟩⟩
instance : FnOk Tryz.prog 203 := ⟨⟨_, Tryz.func203, rfl, beq_eq_false_iff_ne.1 (by kernel_rfl)⟩⟩
instance : FnOk Tryz.prog 204 := ⟨⟨_, Tryz.func204, rfl, beq_eq_false_iff_ne.1 (by kernel_rfl)⟩⟩
instance : FnOk Tryz.prog 205 := ⟨⟨_, Tryz.func205, rfl, beq_eq_false_iff_ne.1 (by kernel_rfl)⟩⟩
instance : FnOk Tryz.prog 206 := ⟨⟨_, Tryz.func206, rfl, beq_eq_false_iff_ne.1 (by kernel_rfl)⟩⟩
instance : FnOk Tryz.prog 207 := ⟨⟨_, Tryz.func207, rfl, beq_eq_false_iff_ne.1 (by kernel_rfl)⟩⟩
instance : FnOk Tryz.prog 208 := ⟨⟨_, Tryz.func208, rfl, beq_eq_false_iff_ne.1 (by kernel_rfl)⟩⟩
instance : FnOk Tryz.prog 209 := ⟨⟨_, Tryz.func209, rfl, beq_eq_false_iff_ne.1 (by kernel_rfl)⟩⟩
instance : FnOk Tryz.prog 210 := ⟨⟨_, Tryz.func210, rfl, beq_eq_false_iff_ne.1 (by kernel_rfl)⟩⟩
instance : FnOk Tryz.prog 211 := ⟨⟨_, Tryz.func211, rfl, beq_eq_false_iff_ne.1 (by kernel_rfl)⟩⟩
instance : FnOk Tryz.prog 212 := ⟨⟨_, Tryz.func212, rfl, beq_eq_false_iff_ne.1 (by kernel_rfl)⟩⟩
instance : FnOk Tryz.prog 213 := ⟨⟨_, Tryz.func213, rfl, beq_eq_false_iff_ne.1 (by kernel_rfl)⟩⟩
instance : FnOk Tryz.prog 214 := ⟨⟨_, Tryz.func214, rfl, beq_eq_false_iff_ne.1 (by kernel_rfl)⟩⟩
instance : FnOk Tryz.prog 215 := ⟨⟨_, Tryz.func215, rfl, beq_eq_false_iff_ne.1 (by kernel_rfl)⟩⟩
instance : FnOk Tryz.prog 216 := ⟨⟨_, Tryz.func216, rfl, beq_eq_false_iff_ne.1 (by kernel_rfl)⟩⟩
instance : FnOk Tryz.prog 217 := ⟨⟨_, Tryz.func217, rfl, beq_eq_false_iff_ne.1 (by kernel_rfl)⟩⟩
instance : FnOk Tryz.prog 218 := ⟨⟨_, Tryz.func218, rfl, beq_eq_false_iff_ne.1 (by kernel_rfl)⟩⟩
instance : FnOk Tryz.prog 219 := ⟨⟨_, Tryz.func219, rfl, beq_eq_false_iff_ne.1 (by kernel_rfl)⟩⟩
instance : FnOk Tryz.prog 220 := ⟨⟨_, Tryz.func220, rfl, beq_eq_false_iff_ne.1 (by kernel_rfl)⟩⟩
instance : FnOk Tryz.prog 221 := ⟨⟨_, Tryz.func221, rfl, beq_eq_false_iff_ne.1 (by kernel_rfl)⟩⟩
instance : FnOk Tryz.prog 222 := ⟨⟨_, Tryz.func222, rfl, beq_eq_false_iff_ne.1 (by kernel_rfl)⟩⟩
instance : FnOk Tryz.prog 223 := ⟨⟨_, Tryz.func223, rfl, beq_eq_false_iff_ne.1 (by kernel_rfl)⟩⟩
instance : FnOk Tryz.prog 224 := ⟨⟨_, Tryz.func224, rfl, beq_eq_false_iff_ne.1 (by kernel_rfl)⟩⟩
instance : FnOk Tryz.prog 225 := ⟨⟨_, Tryz.func225, rfl, beq_eq_false_iff_ne.1 (by kernel_rfl)⟩⟩
instance : FnOk Tryz.prog 226 := ⟨⟨_, Tryz.func226, rfl, beq_eq_false_iff_ne.1 (by kernel_rfl)⟩⟩
instance : FnOk Tryz.prog 227 := ⟨⟨_, Tryz.func227, rfl, beq_eq_false_iff_ne.1 (by kernel_rfl)⟩⟩
instance : FnOk Tryz.prog 228 := ⟨⟨_, Tryz.func228, rfl, beq_eq_false_iff_ne.1 (by kernel_rfl)⟩⟩
instance : FnOk Tryz.prog 229 := ⟨⟨_, Tryz.func229, rfl, beq_eq_false_iff_ne.1 (by kernel_rfl)⟩⟩
instance : FnOk Tryz.prog 230 := ⟨⟨_, Tryz.func230, rfl, beq_eq_false_iff_ne.1 (by kernel_rfl)⟩⟩
instance : FnOk Tryz.prog 231 := ⟨⟨_, Tryz.func231, rfl, beq_eq_false_iff_ne.1 (by kernel_rfl)⟩⟩
instance : FnOk Tryz.prog 232 := ⟨⟨_, Tryz.func232, rfl, beq_eq_false_iff_ne.1 (by kernel_rfl)⟩⟩
instance : FnOk Tryz.prog 233 := ⟨⟨_, Tryz.func233, rfl, beq_eq_false_iff_ne.1 (by kernel_rfl)⟩⟩
instance : FnOk Tryz.prog 234 := ⟨⟨_, Tryz.func234, rfl, beq_eq_false_iff_ne.1 (by kernel_rfl)⟩⟩
instance : FnOk Tryz.prog 235 := ⟨⟨_, Tryz.func235, rfl, beq_eq_false_iff_ne.1 (by kernel_rfl)⟩⟩
instance : FnOk Tryz.prog 236 := ⟨⟨_, Tryz.func236, rfl, beq_eq_false_iff_ne.1 (by kernel_rfl)⟩⟩
instance : FnOk Tryz.prog 237 := ⟨⟨_, Tryz.func237, rfl, beq_eq_false_iff_ne.1 (by kernel_rfl)⟩⟩
instance : FnOk Tryz.prog 238 := ⟨⟨_, Tryz.func238, rfl, beq_eq_false_iff_ne.1 (by kernel_rfl)⟩⟩
instance : FnOk Tryz.prog 239 := ⟨⟨_, Tryz.func239, rfl, beq_eq_false_iff_ne.1 (by kernel_rfl)⟩⟩
instance : FnOk Tryz.prog 240 := ⟨⟨_, Tryz.func240, rfl, beq_eq_false_iff_ne.1 (by kernel_rfl)⟩⟩
instance : FnOk Tryz.prog 241 := ⟨⟨_, Tryz.func241, rfl, beq_eq_false_iff_ne.1 (by kernel_rfl)⟩⟩
instance : FnOk Tryz.prog 242 := ⟨⟨_, Tryz.func242, rfl, beq_eq_false_iff_ne.1 (by kernel_rfl)⟩⟩
instance : FnOk Tryz.prog 243 := ⟨⟨_, Tryz.func243, rfl, beq_eq_false_iff_ne.1 (by kernel_rfl)⟩⟩
instance : FnOk Tryz.prog 244 := ⟨⟨_, Tryz.func244, rfl, beq_eq_false_iff_ne.1 (by kernel_rfl)⟩⟩
end E
end Go.Proofs.YtpiiapoafmnhhaaGreat
