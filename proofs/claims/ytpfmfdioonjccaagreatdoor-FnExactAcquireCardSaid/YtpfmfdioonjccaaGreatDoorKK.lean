/- laws.FnExactRelease. The conditions are the theorem's own. -/
import Derived.Test.YtpfmfdioonjccaaGreatDoorKJ
import Derived.Test.YtpfmfdioonjccaaGreatDoorKA
set_option linter.unusedVariables false
set_option linter.constructorNameAsVariable false
set_option linter.unusedSimpArgs false
set_option maxRecDepth 20000
namespace Go.Proofs.YtpfmfdioonjccaaGreatDoor
open Go Go.Vw

theorem set_len_le (s : Sto) (k d : List UInt8) : (s.set k d).os.length ≤ s.os.length + 1 := by rw [Sto.set_len]; split <;> omega
theorem chg_len (s : Sto) (hs : s.ok = true) (who tok til : Int) : (s.chg who tok til).1.os.length ≤ 301 := by
  have hL := (Sto.ok_at hs).2.1
  unfold Sto.chg
  split
  · show (s.put _ _).os.length ≤ 301
    unfold Sto.put
    split
    · have := set_len_le s leaK (s.chgL til).text; omega
    · omega
  · show s.os.length ≤ 301; omega
theorem ask_ok {s : Sto} {who now : Int} (h : ask s who now = 0) : s.ok = true ∧ within who 0 9 = true ∧ within now 0 101000 = true := by
  unfold ask at h
  split at h
  · rename_i h1
    split at h
    · rename_i h2; exact ⟨h1, h2.1, h2.2⟩
    · cases h
  · cases h
theorem releaseC (s : Sto) (who : Int) : (if (!s.ok) = true then (1 : Int) else if (!within who 0 9) = true then 4 else 0) = ask s who 0 := by
  unfold ask
  cases s.ok <;> cases h : within who 0 9 <;> simp [h, within]
end Go.Proofs.YtpfmfdioonjccaaGreatDoor
