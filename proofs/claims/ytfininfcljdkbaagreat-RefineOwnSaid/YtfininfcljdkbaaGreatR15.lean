/- Refinement, part Ra: refinement is transitive (plain). -/
import Derived.Test.YtfininfcljdkbaaGreatR14
set_option linter.unusedSimpArgs false
set_option linter.unusedVariables false
namespace Go.Proofs.YtfininfcljdkbaaGreat
open Go Go.NS
section
variable {s t u : Sp} {k : Nat}
theorem gd_good {x v a : Nat} (h : v ∈ gdL s k x) (ha : a < k) (hb : v.testBit a = true) : ¬ Hol s (s.nx x a).toNat := fun hh => by
  have hg := (List.mem_filter.1 h).2
  have := List.all_eq_true.1 hg a (List.mem_filter.2 ⟨List.mem_range.2 ha, hb⟩)
  rw [holB_iff.2 hh] at this; cases this
theorem gd_of {x v : Nat} (h : v ∈ s.acc x) (hg : ∀ a, a < k → v.testBit a = true → ¬ Hol s (s.nx x a).toNat) : v ∈ gdL s k x := by
  refine List.mem_filter.2 ⟨h, List.all_eq_true.2 fun a ha => ?_⟩
  obtain ⟨h1, h2⟩ := List.mem_filter.1 ha
  have := hg a (List.mem_range.1 h1) h2
  cases hc : holB s (s.nx x a).toNat with
  | true => exact absurd (holB_iff.1 hc) this
  | false => rfl
theorem used_mem {x a : Nat} (h : (usedN s k x).testBit a = true) : ∃ v ∈ gdL s k x, v.testBit a = true := by
  rw [usedN, orN_bit, List.any_eq_true] at h
  exact h
theorem used_of {x a v : Nat} (h : v ∈ gdL s k x) (hb : v.testBit a = true) : (usedN s k x).testBit a = true := by
  rw [usedN, orN_bit, List.any_eq_true]
  exact ⟨v, h, hb⟩
def Fits (s t : Sp) (k : Nat) : Prop := ∀ x y, Jnt s t k x y → ∀ v ∈ gdL s k x, v ∈ t.acc y
theorem jnt_nh (h0 : ¬ Hol s 0) {x y : Nat} (h : Jnt s t k x y) : ¬ Hol s x := by
  induction h with
  | zero => exact h0
  | @step x y a _ ha hu _ _ =>
    obtain ⟨v, h1, h2⟩ := used_mem hu
    exact gd_good h1 ha h2
theorem jnt_next (ht : t.Val k) (hs : s.Val k) (hf : Fits s t k) {x y v a : Nat} (h : Jnt s t k x y) (hm : v ∈ gdL s k x) (hb : v.testBit a = true) : a < k ∧ Jnt s t k (s.nx x a).toNat (t.nx y a).toNat := by
  have hy := (jnt_lt hs ht h).2
  obtain ⟨h1, h2⟩ := ht.acc_nx hy (hf x y h v hm) hb
  exact ⟨h1, .step h h1 (used_of hm hb) h2⟩
end
open Go Go.NS
end Go.Proofs.YtfininfcljdkbaaGreat
