/- Refinement, part Ra: refinement is transitive (plain). -/
import Derived.Test.YtfininfcljdkbaaGreatR14
set_option linter.unusedSimpArgs false
set_option linter.unusedVariables false
namespace Go.Proofs.YtfininfcljdkbaaGreat
open Go Go.NS
theorem val_valid {s : Sp} {k : Nat} (h : s.Val k) : s.validB = true := by
  obtain ⟨h1, h2, h3, h4, h5, h6, h7, h8⟩ := h
  unfold Sp.validB
  simp only [Bool.and_eq_true, decide_eq_true_eq, List.all_eq_true]
  refine ⟨⟨⟨h1, h4⟩, h5⟩, fun x hx => ?_⟩
  unfold Sp.okB
  simp only [Bool.and_eq_true, decide_eq_true_eq]
  exact ⟨⟨by rw [h6 x hx, h2], h7 x hx⟩, h8 x hx⟩
section
variable {s t u : Sp} {k : Nat}
theorem used_mem {x a : Nat} (h : (usedN s k x).testBit a = true) : ∃ v ∈ gdL s k x, v.testBit a = true := by
  rw [usedN, orN_bit, List.any_eq_true] at h
  exact h
def Fits (s t : Sp) (k : Nat) : Prop := ∀ x y, Jnt s t k x y → ∀ v ∈ gdL s k x, v ∈ t.acc y
end
end Go.Proofs.YtfininfcljdkbaaGreat
/- Refinement, part Rb: the law RefineOrders. -/
namespace Go.Proofs.YtfininfcljdkbaaGreat
open Go Go.NS
theorem fine_of {s t : Sp} {k : Nat} (hs : s.Val k) (ht : t.Val k) (e : s.acts = t.acts) : fineS s t = 0 := by
  simp [fineS, val_valid hs, val_valid ht, e]
theorem RefB0_ok (s t : Sp) {k : Nat} (hs : s.Val k) (ht : t.Val k) (e : s.acts = t.acts) : Fp Tryz.prog 16 [s.av, t.av] (.tup [.agg [abool (refB s t k), .junk, .junk, .junk, .junk], iA 0]) := by
  have h := RefinesB_ok s t hs.small ht.small hs.fit ht.fit
  rw [fine_of hs ht e, hs.len] at h
  simpa using h
end Go.Proofs.YtfininfcljdkbaaGreat
