/- Contracts on worlds that are right; the law of WorldOk. -/
import Derived.Test.YtjdagbicjhmeeaaCe
namespace Go.Proofs.Ytjdagbicjhmeeaa
namespace E
open Go Go.RowKit
set_option linter.unusedSimpArgs false
set_option linter.unusedVariables false
set_option maxHeartbeats 1000000
set_option maxRecDepth 10000
attribute [local irreducible] HC HL HQ HX HO At Y YV Opd Opds KnX Sl Ld Src GV RV Calls Code.wp eptr adr RdF ownF OneX HG LdC
def WOk (d : Wd) : Prop := PsOk d.ps ∧ gok d.ns d.es = true ∧ d.qs.length = d.ps.length ∧ d.ls.length = d.ps.length ∧ ∀ (i : Nat) p q l, d.ps[i]? = some p → d.qs[i]? = some q → d.ls[i]? = some l → PlOk q ∧ q.z = p.z ∧ 0 ≤ l ∧ l ≤ p.q
noncomputable def wok (d : Wd) : Bool := @decide (WOk d) (Classical.propDecidable _)
theorem wok_t {d : Wd} (h : WOk d) : wok d = true := by unfold wok; exact @decide_eq_true _ (Classical.propDecidable _) h
theorem wok_f {d : Wd} (h : ¬ WOk d) : wok d = false := by unfold wok; exact @decide_eq_false _ (Classical.propDecidable _) h
end E
end Go.Proofs.Ytjdagbicjhmeeaa
