/- Specifications, part Pa: hollow states by rounds (plain). -/
import Derived.Test.YtfininfcljdkbaaR8
set_option linter.unusedSimpArgs false
set_option linter.unusedVariables false
namespace Go.Proofs.Ytfininfcljdkbaa
open Go Go.NS
def mkD (N : Nat) (D : Nat → Bool) : List AV := (List.range N).map fun x => abool (D x)
section
variable {s : Sp} {k : Nat}
end
end Go.Proofs.Ytfininfcljdkbaa
/- Specifications, part Pf: refinement (plain). -/
namespace Go.Proofs.Ytfininfcljdkbaa
open Go Go.NS
def Sp.can (s : Sp) (x : Nat) : Nat := canN (s.row x)
section
variable {T t : Sp} {k : Nat}
theorem Sp.Val.can_bit (h : T.Val k) {x a : Nat} (hx : x < T.sts.length) : (T.can x).testBit a = true ↔ a < k ∧ 0 ≤ T.nx x a := by
  rw [Sp.can, canN_bit, h.rowlen hx]
  simp [Sp.nx]
theorem Sp.Val.can_lt (h : T.Val k) {x : Nat} (hx : x < T.sts.length) : T.can x < 2 ^ k := by
  have := canN_lt (T.row x)
  rw [h.rowlen hx] at this; exact this
end
theorem toNat_natsI (l : List Nat) : (natsI l).map Int.toNat = l := by
  rw [natsI, List.map_map]
  induction l with
  | nil => rfl
  | cons a l ih => rw [List.map_cons, ih]; simp
section
variable {s : Sp} {k : Nat}
theorem trimS_len (hne : leftN s k ≠ []) : (trimS s k).sts.length = (leftN s k).length := by rw [trimS_sts hne]; simp
theorem trimS_at (hne : leftN s k ≠ []) {i : Nat} (hi : i < (leftN s k).length) : (trimS s k).sts.getD i ([], []) = trimX s k (leftN s k)[i] := by
  rw [gd (by rw [trimS_len hne]; exact hi)]
  simp [trimS_sts hne]
theorem trimS_acc (hne : leftN s k ≠ []) {i : Nat} (hi : i < (leftN s k).length) : (trimS s k).acc i = gdL s k (leftN s k)[i] := by
  rw [Sp.acc, trimS_at hne hi]
  exact toNat_natsI _
inductive Jnt (s t : Sp) (k : Nat) : Nat → Nat → Prop
  | zero : Jnt s t k 0 0
  | step {x y a : Nat} (h : Jnt s t k x y) (ha : a < k) (hu : (usedN s k x).testBit a = true) (ht : 0 ≤ t.nx y a) : Jnt s t k (s.nx x a).toNat (t.nx y a).toNat
variable {t : Sp}
end
end Go.Proofs.Ytfininfcljdkbaa
/- Modal specifications, part Ph: what is around a specification says the same just if its sets are all between (plain). -/
namespace Go.Proofs.Ytfininfcljdkbaa
open Go Go.NS
theorem mem_betw {lo hi v : Nat} : v ∈ betwN lo hi ↔ nAndNot lo v = 0 ∧ nAndNot v hi = 0 := by
  unfold betwN
  rw [List.mem_filter, List.mem_range]
  constructor
  · rintro ⟨_, h⟩
    simp only [betB, Bool.and_eq_true, decide_eq_true_eq] at h
    exact ⟨must_and.1 h.1, h.2⟩
  · rintro ⟨h1, h2⟩
    have hb : betB lo hi v = true := by simp only [betB, Bool.and_eq_true, decide_eq_true_eq]; exact ⟨must_and.2 h1, h2⟩
    exact ⟨by have := betB_le hb; omega, hb⟩
theorem betw_inc (lo hi : Nat) : (betwN lo hi).Pairwise (· < ·) := List.pairwise_lt_range.filter _
theorem whole_val {m : Mo} {k : Nat} (hm : m.Val k) : m.whole.Val k := by
  refine ⟨hm.a, hm.len, hm.k8, by simp only [Mo.whole, List.length_map]; exact hm.pos, by simp only [Mo.whole, List.length_map]; exact hm.few, fun z hz => ?_, fun z hz => ?_, fun z hz => ?_⟩
  · obtain ⟨x, hx, rfl⟩ := List.mem_map.1 hz
    exact hm.row x hx
  · obtain ⟨x, hx, rfl⟩ := List.mem_map.1 hz
    simp only [Mo.whole, List.length_map]
    exact hm.rng x hx
  · obtain ⟨x, hx, rfl⟩ := List.mem_map.1 hz
    refine accB_all fun i hi => ?_
    simp only [wholeS, natsI_length] at hi
    have e : ∀ j (h : j < (natsI (betwN x.1.toNat (canN x.2))).length), (natsI (betwN x.1.toNat (canN x.2)))[j] = (((betwN x.1.toNat (canN x.2))[j]'(by simpa [natsI] using h) : Nat) : Int) := fun j h => by simp [natsI]
    simp only [wholeS]
    refine ⟨by rw [e]; omega, ?_, fun h0 => ?_⟩
    · rw [e, Int.toNat_natCast]
      exact (mem_betw.1 (List.getElem_mem hi)).2
    · rw [e, e]
      have := List.pairwise_iff_getElem.1 (betw_inc x.1.toNat (canN x.2)) (i - 1) i (by omega) hi (by omega)
      omega
section
variable {t : Sp} {k : Nat}
end
section
variable {s : Sp} {k : Nat}
theorem trim_acc' (hv : s.Val k) (hne : leftN s k ≠ []) : ∀ x, x < (trimS s k).sts.length → (trimS s k).acc x ≠ [] := fun x hx => by
  rw [trimS_len hne] at hx
  rw [trimS_acc hne hx]
  exact gd_ne hv (List.getElem_mem hx)
end
end Go.Proofs.Ytfininfcljdkbaa
