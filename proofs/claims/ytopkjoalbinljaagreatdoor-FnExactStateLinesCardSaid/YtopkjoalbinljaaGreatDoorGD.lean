/- Texts of buckets: contracts; the conditions are the theorems' own. -/
import Derived.Test.YtopkjoalbinljaaGreatDoorGC
set_option linter.unusedVariables false
set_option linter.unusedSimpArgs false
set_option maxRecDepth 20000
namespace Go.Proofs.YtopkjoalbinljaaGreatDoor
open Go Go.Vw

/-- what BucketsText tells -/
def bksCode (L : List Bk) : Int := firstC [(decide (4096 < L.length), 2), (!bksOK L, 1)]
def bksRes (L : List Bk) : List UInt8 := if bksCode L = 0 then bksText L else []
theorem bksCode_zero {L : List Bk} (h : bksCode L = 0) : bksOK L = true := by
  unfold bksCode firstC firstC firstC at h
  cases hl : decide (4096 < L.length) <;> cases hb : bksOK L <;> rw [hl, hb] at h <;> first | rfl | (exact absurd h (by decide))
end Go.Proofs.YtopkjoalbinljaaGreatDoor
