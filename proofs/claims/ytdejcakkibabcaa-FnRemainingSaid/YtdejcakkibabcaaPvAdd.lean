/- Plain laws: a door more. -/
import Derived.Test.YtdejcakkibabcaaPvChg
set_option linter.unusedVariables false
set_option linter.unusedSimpArgs false
set_option autoImplicit false
namespace Go.Pv
open Go Go.Fx Go.Pf

theorem vm_of {N : Int} {ds r : List Door} {ks : List Int} (h : VM N ds ks) (hr : LexS r) (hl : r.length ≤ 30) (hd : ∀ d ∈ r, 0 ≤ d.1 ∧ d.1 < d.2.1 ∧ d.2.1 < N ∧ 0 ≤ d.2.2 ∧ d.2.2 ≤ 63) : VM N r ks :=
  ⟨h.n1, h.n2, hl, h.kl, hd, lexS_at hr, h.keys⟩
end Go.Pv
