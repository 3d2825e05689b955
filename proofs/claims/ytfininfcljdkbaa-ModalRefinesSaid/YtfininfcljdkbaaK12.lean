/- Modal specifications, part Nu: the laws ModalRefines and ModalRight. -/
import Derived.Test.YtfininfcljdkbaaK8
import Derived.Test.YtfininfcljdkbaaK9
set_option linter.unusedSimpArgs false
set_option linter.unusedVariables false
namespace Go.Proofs.Ytfininfcljdkbaa
open Go Go.NS


theorem pairsM_len {m n : Mo} {k : Nat} (hm : m.Val k) (hn : n.Val k) : (pairsM m n k).length * 16 ≤ 140737488351232 := by
  have h1 := List.length_filter_le (fun p => decide (p ∈ (relM m n k).map (·.1))) (allP m.sts.length n.sts.length)
  rw [allP_length] at h1
  have h2 : (pairsM m n k).length ≤ m.sts.length * n.sts.length := by unfold pairsM; rw [List.length_map]; exact h1
  have hmul : m.sts.length * n.sts.length ≤ 500 * 500 := Nat.mul_le_mul hm.few hn.few
  omega

theorem gapW_len {m n : Mo} {k : Nat} (hm : m.Val k) (hn : n.Val k) : (gapW m n k).length * 8 ≤ 140737488351232 := by
  have h1 := gW_length (relM m n k) (fitM m n)
  have h2 : (gapW m n k).length ≤ (relM m n k).length + 1 := h1
  have h3 : (relM m n k).length ≤ m.sts.length * n.sts.length := in_length gL_nodup (gL_in (in0 hm hn) (suM_in hm hn))
  have hmul : m.sts.length * n.sts.length ≤ 500 * 500 := Nat.mul_le_mul hm.few hn.few
  omega

set_option maxRecDepth 4000 in
set_option maxHeartbeats 4000000 in
theorem ModalRefines_ok (m n : Mo) (hm : m.Small) (hn : n.Small) : Fp Try.prog 3 [m.av, n.av] (abool true) := by
  refine Fp.of_vc tok Try.func3 rfl (by decide) ?_
  simp -implicitDefEqProofs only [go_sem, Try.ntmps3, Mo.av, Mo.cells]
  refine newK_intro fun n2 hn2 => ?_
  try simp -implicitDefEqProofs only [hset, List.map_append, List.map_cons, List.map_nil, List.cons_append, List.nil_append, List.mem_cons, List.mem_append, List.not_mem_nil, or_false, not_or] at hn2
  simp -implicitDefEqProofs only [go_sem]
  refine newK_intro fun n3 hn3 => ?_
  try simp -implicitDefEqProofs only [hset, List.map_append, List.map_cons, List.map_nil, List.cons_append, List.nil_append, List.mem_cons, List.mem_append, List.not_mem_nil, or_false, not_or] at hn3
  simp -implicitDefEqProofs only [go_sem, hn3, not_false_eq_true]
  refine opK_pure (light_ok m hm) rfl (Sub.of_eq (by first | rfl | simp -implicitDefEqProofs only [go_sem])) ?_
  simp -implicitDefEqProofs only [go_sem, hn3, not_false_eq_true]
  cases hL1 : lightM m with
  | false =>
    simp -implicitDefEqProofs only [go_sem, hn3, not_false_eq_true]
    refine opK_pure (awakeM_ok) rfl (Sub.of_eq (by first | rfl | simp -implicitDefEqProofs only [go_sem])) ?_
    simp -implicitDefEqProofs only [go_sem, hn3, not_false_eq_true]
    refine fnPost_ret tok ?_
    simp -implicitDefEqProofs only [go_sem, Try.results3]
  | true =>
  simp -implicitDefEqProofs only [go_sem, hn3, not_false_eq_true]
  refine opK_pure (light_ok n hn) rfl (Sub.of_eq (by first | rfl | simp -implicitDefEqProofs only [go_sem])) ?_
  simp -implicitDefEqProofs only [go_sem, hn3, not_false_eq_true]
  cases hL2 : lightM n with
  | false =>
    simp -implicitDefEqProofs only [go_sem, hn3, not_false_eq_true]
    refine opK_pure (awakeM_ok) rfl (Sub.of_eq (by first | rfl | simp -implicitDefEqProofs only [go_sem])) ?_
    simp -implicitDefEqProofs only [go_sem, hn3, not_false_eq_true]
    refine fnPost_ret tok ?_
    simp -implicitDefEqProofs only [go_sem, Try.results3]
  | true =>
  have hF : Fp Try.prog 14 [m.av, n.av] (iA (fineE m n)) := fault_ok m n hm hn
  simp -implicitDefEqProofs only [go_sem, hn3, not_false_eq_true, iA]
  refine opK_pure (hF) rfl (Sub.of_eq (by first | rfl | simp -implicitDefEqProofs only [go_sem])) ?_
  have hR := RefinesM_ok m n hm hn
  by_cases c0 : fineE m n = 0
  rotate_left
  · have er : refMV m n = ⟨false, [], []⟩ := by simp [refMV, c0]
    rw [er] at hR
    simp -implicitDefEqProofs only [go_sem, c0, decide_false, hn3, not_false_eq_true, iA]
    refine AW.draw tok hmix ⟨[], [], [], false⟩ (by kernel_rfl) (Has.of_sub (List.nil_sublist _)) ?_
    simp -implicitDefEqProofs only [go_sem, hn3, not_false_eq_true]
    refine opK_pure (CopyM_ok m hm) rfl (Sub.of_eq (by first | rfl | simp -implicitDefEqProofs only [go_sem])) ?_
    simp -implicitDefEqProofs only [go_sem, hn3, not_false_eq_true]
    refine opK_pure (CopyM_ok n hn) rfl (Sub.of_eq (by first | rfl | simp -implicitDefEqProofs only [go_sem])) ?_
    simp -implicitDefEqProofs only [go_sem, hn3, not_false_eq_true]
    refine opK_pure (hR) rfl (Sub.of_eq (by first | rfl | simp -implicitDefEqProofs only [go_sem])) ?_
    simp -implicitDefEqProofs only [go_sem, hn3, not_false_eq_true, c0, Ve.av, pairsA, intsA, pc_nil, Nat.zero_div, iA]
    refine newK_intro fun n9 hn9 => ?_
    try simp -implicitDefEqProofs only [hset, List.map_append, List.map_cons, List.map_nil, List.cons_append, List.nil_append, List.mem_cons, List.mem_append, List.not_mem_nil, or_false, not_or] at hn9
    simp -implicitDefEqProofs only [go_sem, hn3, not_false_eq_true, hn9, c0, Ve.av, pairsA, intsA, pc_nil, Nat.zero_div]
    refine opK_pure (empty_ok ⟨false, [], []⟩) rfl (Sub.of_eq (by first | rfl | simp -implicitDefEqProofs only [go_sem])) ?_
    have ee : emptyB ⟨false, [], []⟩ = true := rfl
    simp -implicitDefEqProofs only [go_sem, hn3, not_false_eq_true, ee]
    refine opK_pure (awakeM_ok) rfl (Sub.of_eq (by first | rfl | simp -implicitDefEqProofs only [go_sem])) ?_
    simp -implicitDefEqProofs only [go_sem, hn3, not_false_eq_true]
    refine fnPost_ret tok ?_
    simp -implicitDefEqProofs only [go_sem, Try.results3]
  have C := fine_cmp c0
  obtain ⟨k, hk⟩ : ∃ k, m.acts.length = k := ⟨_, rfl⟩
  rw [hk] at C
  simp -implicitDefEqProofs only [go_sem, c0, decide_true, hn3, not_false_eq_true, iA]
  refine opK_pure (ReachM_ok m n C.m C.n) rfl (Sub.of_eq (by first | rfl | simp -implicitDefEqProofs only [go_sem])) ?_
  simp -implicitDefEqProofs only [go_sem, hn3, not_false_eq_true, reachR, iA]
  cases hro : okM m n k with
  | true =>
    have er : refMV m n = ⟨true, pairsM m n k, []⟩ := by simp only [refMV, if_pos c0, hk, veM, hro, if_true]
    have hpl := pairsM_len C.m C.n
    rw [er] at hR
    refine AW.draw tok hmix ⟨[], [], [], false⟩ (by kernel_rfl) (Has.of_sub (List.nil_sublist _)) ?_
    simp -implicitDefEqProofs only [go_sem, hn3, not_false_eq_true]
    refine opK_pure (CopyM_ok m hm) rfl (Sub.of_eq (by first | rfl | simp -implicitDefEqProofs only [go_sem])) ?_
    simp -implicitDefEqProofs only [go_sem, hn3, not_false_eq_true]
    refine opK_pure (CopyM_ok n hn) rfl (Sub.of_eq (by first | rfl | simp -implicitDefEqProofs only [go_sem])) ?_
    simp -implicitDefEqProofs only [go_sem, hn3, not_false_eq_true]
    refine opK_pure (hR) rfl (Sub.of_eq (by first | rfl | simp -implicitDefEqProofs only [go_sem])) ?_
    simp -implicitDefEqProofs only [go_sem, hn3, not_false_eq_true, c0, Ve.av, pairsA, intsA, pc_div, hro, iA]
    refine newK_intro fun n9 hn9 => ?_
    try simp -implicitDefEqProofs only [hset, List.map_append, List.map_cons, List.map_nil, List.cons_append, List.nil_append, List.mem_cons, List.mem_append, List.not_mem_nil, or_false, not_or] at hn9
    simp -implicitDefEqProofs only [go_sem, hn3, not_false_eq_true, hn9, c0, Ve.av, pairsA, intsA, pc_div, hro]
    refine opK_pure (SamePairs_ok (pairsM m n k) (pairsM m n k) hpl hpl) rfl (Sub.of_eq (by first | rfl | simp -implicitDefEqProofs only [go_sem])) ?_
    simp -implicitDefEqProofs only [go_sem, hn3, not_false_eq_true, hn9, decide_true]
    refine opK_pure (awakeM_ok) rfl (Sub.of_eq (by first | rfl | simp -implicitDefEqProofs only [go_sem])) ?_
    simp -implicitDefEqProofs only [go_sem, hn3, not_false_eq_true]
    refine fnPost_ret tok ?_
    simp -implicitDefEqProofs only [go_sem, Try.results3]
  | false =>
    have er : refMV m n = ⟨false, [], gapW m n k⟩ := by simp only [refMV, if_pos c0, hk, veM, hro, Bool.false_eq_true, if_false]
    have hwl := gapW_len C.m C.n
    have hgap := gapW_gap C.m C.n hro
    rw [er] at hR
    refine AW.draw tok hmix ⟨[], [], [], false⟩ (by kernel_rfl) (Has.of_sub (List.nil_sublist _)) ?_
    simp -implicitDefEqProofs only [go_sem, hn3, not_false_eq_true]
    refine opK_pure (CopyM_ok m hm) rfl (Sub.of_eq (by first | rfl | simp -implicitDefEqProofs only [go_sem])) ?_
    simp -implicitDefEqProofs only [go_sem, hn3, not_false_eq_true]
    refine opK_pure (CopyM_ok n hn) rfl (Sub.of_eq (by first | rfl | simp -implicitDefEqProofs only [go_sem])) ?_
    simp -implicitDefEqProofs only [go_sem, hn3, not_false_eq_true]
    refine opK_pure (hR) rfl (Sub.of_eq (by first | rfl | simp -implicitDefEqProofs only [go_sem])) ?_
    simp -implicitDefEqProofs only [go_sem, hn3, not_false_eq_true, c0, Ve.av, pairsA, intsA, pc_nil, Nat.zero_div, hro, List.length_map, iA]
    refine newK_intro fun n9 hn9 => ?_
    try simp -implicitDefEqProofs only [hset, List.map_append, List.map_cons, List.map_nil, List.cons_append, List.nil_append, List.mem_cons, List.mem_append, List.not_mem_nil, or_false, not_or] at hn9
    simp -implicitDefEqProofs only [go_sem, hn3, not_false_eq_true, hn9, c0, Ve.av, pairsA, intsA, pc_nil, Nat.zero_div, hro, List.length_map]
    refine opK_pure (IsGapM_ok m n C.m C.n (gapW m n k) hwl) rfl (Sub.of_eq (by first | rfl | simp -implicitDefEqProofs only [go_sem])) ?_
    simp -implicitDefEqProofs only [go_sem, hn3, not_false_eq_true, hgap]
    refine opK_pure (awakeM_ok) rfl (Sub.of_eq (by first | rfl | simp -implicitDefEqProofs only [go_sem])) ?_
    simp -implicitDefEqProofs only [go_sem, hn3, not_false_eq_true]
    refine fnPost_ret tok ?_
    simp -implicitDefEqProofs only [go_sem, Try.results3]

theorem ModalRefines_fc (xs : List AV) (h : ShAs TT0 [25, 25] xs) : Fc Try.prog 3 xs [] fun x _ => x = abool true := by
  cases h with
  | cons h1 h =>
  cases h with
  | cons h2 h =>
  cases h
  obtain ⟨m, hm, rfl⟩ := shA_mo h1
  obtain ⟨n, hn, rfl⟩ := shA_mo h2
  exact ModalRefines_ok m n hm hn
end Go.Proofs.Ytfininfcljdkbaa
