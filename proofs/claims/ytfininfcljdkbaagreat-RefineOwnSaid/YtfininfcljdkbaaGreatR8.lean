/- Modal specifications, part Np: the law's example (plain). -/
import Derived.Test.YtfininfcljdkbaaGreatR7
set_option linter.unusedSimpArgs false
set_option linter.unusedVariables false
namespace Go.Proofs.YtfininfcljdkbaaGreat
open Go Go.NS
theorem gdL_none {s : Sp} {k : Nat} (h : ∀ x, holB s x = false) (x : Nat) : gdL s k x = s.acc x := by
  unfold gdL
  rw [List.filter_eq_self]
  intro v _
  simp [goodB, h]
theorem holB_none {s : Sp} (h : ∀ x, x < s.sts.length → s.acc x ≠ []) (x : Nat) : holB s x = false := by
  rw [Bool.eq_false_iff]
  intro hx
  have hl : Ladder s [] := ⟨List.nodup_nil, by simp, fun i hi => by simp at hi⟩
  have hw : Whole s [] := fun y hy hf => by
    obtain ⟨v, hv⟩ := List.exists_mem_of_ne_nil _ (h y hy)
    obtain ⟨a, _, h2⟩ := hf v hv
    simp at h2
  have := (ladder_iff hl hw x).2 (holB_iff.1 hx)
  simp at this
end Go.Proofs.YtfininfcljdkbaaGreat
