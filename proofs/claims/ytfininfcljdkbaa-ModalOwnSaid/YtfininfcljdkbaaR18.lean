/- Modal specifications, part Sa: what is least around a specification (plain). -/
import Derived.Test.YtfininfcljdkbaaR15
import Derived.Test.YtfininfcljdkbaaR10
set_option linter.unusedSimpArgs false
set_option linter.unusedVariables false
namespace Go.Proofs.Ytfininfcljdkbaa
open Go Go.NS
section
variable {m n : Mo} {k : Nat}
inductive JntM (m n : Mo) (k : Nat) : Nat → Nat → Prop
  | zero : JntM m n k 0 0
  | step {x y a : Nat} (h : JntM m n k x y) (ha : a < k) (hc : (m.can x).testBit a = true) (hn : 0 ≤ n.nx y a) : JntM m n k (m.nx x a).toNat (n.nx y a).toNat
end
section
variable {s : Sp} {k : Nat} {n : Mo}
end
end Go.Proofs.Ytfininfcljdkbaa
/- Meet, part Ta: the small functions of the reference. -/
namespace Go.Proofs.Ytfininfcljdkbaa
open Go Go.NS
end Go.Proofs.Ytfininfcljdkbaa
/- Meet, part Tb: the meet of two specifications, by the reference. -/
namespace Go.Proofs.Ytfininfcljdkbaa
open Go Go.NS
section
variable (s t : Sp) (k : Nat)
end
section
variable {s t : Sp} {k : Nat}
end
end Go.Proofs.Ytfininfcljdkbaa
/- Meet, part Tc: the meet of two modal specifications (plain). -/
namespace Go.Proofs.Ytfininfcljdkbaa
open Go Go.NS
section
variable (m n : Mo) (k : Nat)
def loM (p : Pr) : Nat := m.must p.1 ||| n.must p.2
def hiM (p : Pr) : Nat := m.can p.1 &&& n.can p.2
def cfM (p : Pr) : Bool := !decide (nAndNot (loM m n p) (hiM m n p) = 0)
def tgM (p : Pr) (a : Nat) : Pr := ((m.nx p.1 a).toNat, (n.nx p.2 a).toNat)
def pSuc (p : Pr) : List Pr := if cfM m n p then [] else (bits k (hiM m n p)).map (tgM m n p)
def pQ : List Pr := bfsG (pSuc m n k) (m.sts.length * n.sts.length + 1) 0 [(0, 0)]
def rowM (p : Pr) (l : List Nat) : List Int := (List.range k).map fun a => if a ∈ l then ((pQ m n k).idxOf (tgM m n p a) : Nat) else -1
def pX (p : Pr) : List Int × List Int := if cfM m n p then ([], rowM m n k p []) else (natsI (betwN (loM m n p) (hiM m n p)), rowM m n k p (bits k (hiM m n p)))
def outS : Sp := ⟨m.acts, (pQ m n k).map (pX m n k)⟩
end
section
variable {m n : Mo} {k : Nat}
theorem hi_bit (hm : m.Val k) (hn : n.Val k) {p : Pr} (hp : InM m n p) {a : Nat} (h : a ∈ bits k (hiM m n p)) : a < k ∧ InM m n (tgM m n p a) ∧ m.nx p.1 a = ((tgM m n p a).1 : Int) ∧ n.nx p.2 a = ((tgM m n p a).2 : Int) := by
  have hak := bits_lt h
  have hb := (List.mem_filter.1 h).2
  unfold hiM at hb
  rw [Nat.testBit_and, Bool.and_eq_true] at hb
  have h1 := ((hm.can_bit hp.1).1 hb.1).2
  have h2 := ((hn.can_bit hp.2).1 hb.2).2
  have h3 := hm.nx_rng hp.1 hak
  have h4 := hn.nx_rng hp.2 hak
  unfold tgM
  exact ⟨hak, ⟨by simp only; omega, by simp only; omega⟩, by simp only; omega, by simp only; omega⟩
theorem pSuc_in (hm : m.Val k) (hn : n.Val k) {p : Pr} (hp : InM m n p) : ∀ q ∈ pSuc m n k p, InM m n q := fun q hq => by
  unfold pSuc at hq
  split at hq
  · simp at hq
  · obtain ⟨a, ha, rfl⟩ := List.mem_map.1 hq
    exact (hi_bit hm hn hp ha).2.1
theorem pQ_ok (hm : m.Val k) (hn : n.Val k) : (pQ m n k).Nodup ∧ (∀ p ∈ pQ m n k, InM m n p) ∧ (∀ p ∈ pQ m n k, ∀ q ∈ pSuc m n k p, q ∈ pQ m n k) ∧ 0 < (pQ m n k).length := by
  obtain ⟨h1, h2, h3⟩ := bfsG_ok (S := pSuc m n k) (A := allP m.sts.length n.sts.length) (fun p hp y hy => mem_allP.2 (pSuc_in hm hn (mem_allP.1 hp) y hy)) (m.sts.length * n.sts.length + 1) 0 [(0, 0)] (by simp) (fun y hy => by simp at hy; subst hy; exact mem_allP.2 ⟨hm.pos, hn.pos⟩) (by rw [allP_length]; omega) (by simp) (fun j _ h => absurd h (Nat.not_lt_zero j))
  refine ⟨h1, fun p hp => mem_allP.1 (h2 p hp), h3, ?_⟩
  have := (bfsG_prefix (S := pSuc m n k) (m.sts.length * n.sts.length + 1) 0 [(0, 0)]).length_le
  simp only [List.length_cons, List.length_nil] at this
  exact this
theorem rowM_len (p : Pr) (l : List Nat) : (rowM m n k p l).length = k := by simp [rowM]
theorem rowM_at (p : Pr) (l : List Nat) {a : Nat} (ha : a < k) : (rowM m n k p l).getD a (-1) = if a ∈ l then (((pQ m n k).idxOf (tgM m n p a) : Nat) : Int) else -1 := by
  rw [gd (by rw [rowM_len]; exact ha)]
  simp [rowM]
theorem rowM_can (p : Pr) (c : Nat) (a : Nat) : (canN (rowM m n k p (bits k c))).testBit a = decide (a < k ∧ c.testBit a = true) := by
  rw [canN_bit, rowM_len]
  by_cases ha : a < k
  · rw [rowM_at p _ ha]
    simp only [ha, true_and, decide_eq_decide]
    constructor
    · intro h
      split at h
      · rename_i hm; exact (List.mem_filter.1 hm).2
      · omega
    · intro h
      have hm : a ∈ bits k c := List.mem_filter.2 ⟨List.mem_range.2 ha, h⟩
      rw [if_pos hm]
      omega
  · simp [ha]
theorem hi_lt (hm : m.Val k) {p : Pr} (hp : p.1 < m.sts.length) : hiM m n p < 2 ^ k := Nat.lt_of_le_of_lt Nat.and_le_left (hm.can_lt hp)
theorem rowM_rng (hm : m.Val k) (hn : n.Val k) {p : Pr} (hp : p ∈ pQ m n k) (hc : cfM m n p = false) : rngB (pQ m n k).length (rowM m n k p (bits k (hiM m n p))) = true := by
  refine List.all_eq_true.2 fun y hy => ?_
  obtain ⟨a, ha, rfl⟩ := List.mem_map.1 hy
  split
  · rename_i hm2
    have : tgM m n p a ∈ pQ m n k := (pQ_ok hm hn).2.2.1 p hp _ (by unfold pSuc; rw [hc]; exact List.mem_map_of_mem hm2)
    have := List.idxOf_lt_length_of_mem this
    simp only [Bool.and_eq_true, decide_eq_true_eq]
    omega
  · simp only [Bool.and_eq_true, decide_eq_true_eq]
    omega
theorem outS_val (hm : m.Val k) (hn : n.Val k) (hl : (pQ m n k).length ≤ 500) : (outS m n k).Val k := by
  obtain ⟨q1, q2, q3, q4⟩ := pQ_ok hm hn
  refine ⟨hm.a, hm.len, hm.k8, by simp only [outS, List.length_map]; exact q4, by simp only [outS, List.length_map]; omega, fun z hz => ?_, fun z hz => ?_, fun z hz => ?_⟩
  · obtain ⟨p, hp, rfl⟩ := List.mem_map.1 hz
    unfold pX
    split <;> exact rowM_len _ _
  · obtain ⟨p, hp, rfl⟩ := List.mem_map.1 hz
    simp only [outS, List.length_map]
    unfold pX
    split
    · refine List.all_eq_true.2 fun y hy => ?_
      obtain ⟨a, ha, rfl⟩ := List.mem_map.1 hy
      simp only [List.not_mem_nil, if_false, Bool.and_eq_true, decide_eq_true_eq]
      omega
    · rename_i hc
      exact rowM_rng hm hn hp (by simpa using hc)
  · obtain ⟨p, hp, rfl⟩ := List.mem_map.1 hz
    unfold pX
    split
    · exact accB_all fun i hi => absurd hi (Nat.not_lt_zero i)
    · refine accB_all fun i hi => ?_
      simp only [natsI_length] at hi
      have e : ∀ j (h : j < (natsI (betwN (loM m n p) (hiM m n p))).length), (natsI (betwN (loM m n p) (hiM m n p)))[j] = (((betwN (loM m n p) (hiM m n p))[j]'(by simpa [natsI] using h) : Nat) : Int) := fun j h => by simp [natsI]
      refine ⟨by rw [e]; omega, ?_, fun h0 => ?_⟩
      · rw [e, Int.toNat_natCast, andNot_zero]
        intro a ha
        have h1 := andNot_zero.1 (mem_betw.1 (List.getElem_mem hi)).2 a ha
        rw [rowM_can, decide_eq_true_eq]
        refine ⟨?_, h1⟩
        rcases Nat.lt_or_ge a k with h | h
        · exact h
        · have := Nat.lt_of_lt_of_le (hi_lt (n := n) hm (q2 p hp).1) (Nat.pow_le_pow_right (by decide) h)
          rw [Nat.testBit_lt_two_pow this] at h1; cases h1
      · rw [e, e]
        have := List.pairwise_iff_getElem.1 (betw_inc (loM m n p) (hiM m n p)) (i - 1) i (by omega) hi (by omega)
        omega
noncomputable def meetA (m n : Mo) : AV :=
  if fineE m n = 0 then
    (if 500 < (pQ m n m.acts.length).length then .tup [.agg [.raw (.slice none 0 0), .raw (.slice none 0 0)], iA 2]
     else if leftN (outS m n m.acts.length) m.acts.length = [] then .tup [.agg [.raw (.slice none 0 0), .raw (.slice none 0 0)], iA 3]
     else .tup [(arM (trimS (outS m n m.acts.length) m.acts.length)).av, iA 0])
  else .tup [.agg [.raw (.slice none 0 0), .raw (.slice none 0 0)], iA (fineE m n)]
end
end Go.Proofs.Ytfininfcljdkbaa
/- Meet, part Td: the meet of two modal specifications, by the program. -/
namespace Go.Proofs.Ytfininfcljdkbaa
open Go Go.NS
theorem mIdx_keyM {m n : Mo} {k : Nat} (hm : m.Val k) (hn : n.Val k) {q : List Pr} (hq : ∀ p ∈ q, InM m n p) : ∀ z ∈ mIdx q, KeyD Try.prog 115 z.1 := fun z hz => by
  obtain ⟨p, hp, rfl⟩ := List.mem_map.1 hz
  have h1 := (hq p hp).1
  have h2 := (hq p hp).2
  have h3 := hm.few
  have h4 := hn.few
  exact keyDM p (by omega) (by omega)
theorem rowM_nil (m n : Mo) (k : Nat) (p : Pr) : List.replicate k (iA (-1)) = (rowM m n k p []).map iA := by
  refine List.ext_getElem (by simp [rowM]) fun a h1 h2 => ?_
  simp [rowM]
theorem rowM_set {m n : Mo} {k : Nat} {p : Pr} {l : List Nat} {a : Nat} (ha : a < k) : List.take a ((rowM m n k p l).map iA) ++ .raw (.int .i64 ((pQ m n k).idxOf (tgM m n p a) : Nat)) :: List.drop (a + 1) ((rowM m n k p l).map iA) = (rowM m n k p (l ++ [a])).map iA := by
  rw [take_setC (by simpa [rowM] using ha)]
  refine List.ext_getElem (by simp [rowM]) fun b h1 h2 => ?_
  rw [List.getElem_set]
  simp only [rowM, List.getElem_map, List.getElem_range, List.mem_append, List.mem_cons, List.not_mem_nil, or_false]
  by_cases e : a = b
  · subst e; simp [iA, aint]
  · have : ¬ b = a := fun h => e h.symm
    simp [e, this]
end Go.Proofs.Ytfininfcljdkbaa
