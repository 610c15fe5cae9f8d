/- What the rows ask of the program itself, each by itself. -/
import Derived.Test.YtpiiapoafmnhhaaGreatRows
import Derived.ProofKit
import Derived.OpenShut
import Derived.ShutString
import Derived.ChangeOld
import Derived.Lib.SmallJoins
namespace Go.Proofs.YtpiiapoafmnhhaaGreat
namespace E
open Go Go.ChangeShapes Go.WideShapes Go.ChangeAt Go.RowKit Go.Joins
theorem aT {a b : Bool} (h : a = true) (h' : b = true) : (a && b) = true := by rw [h, h']; rfl
theorem j_laid : laidOutB Tryz.prog = true := by kernel_rfl
theorem j_maps : mapsRowed Tryz.prog = true := by kernel_rfl
theorem j_heard : Program.stopsHeard Tryz.prog = true := by kernel_rfl
theorem j_enter : Program.mayEnter Tryz.prog = true := by kernel_rfl
theorem j_lifts : (Rows.fnExactQueryPagesRow.lifted == Program.liftsFinal Tryz.prog) = true := by kernel_rfl
theorem j_make : (Program.make Tryz.prog == some Rows.fnExactQueryPagesRow.make) = true := by kernel_rfl
theorem j_keys : (Rows.fnExactQueryPagesRow.plainKeys == Program.plainKeys Tryz.prog) = true := by kernel_rfl
end E
end Go.Proofs.YtpiiapoafmnhhaaGreat
