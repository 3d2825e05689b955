/- Modal specifications, part Nv: the law ModalRight. -/
import Derived.Test.YtfininfcljdkbaaK8
import Derived.Test.YtfininfcljdkbaaK9
set_option linter.unusedSimpArgs false
set_option linter.unusedVariables false
namespace Go.Proofs.Ytfininfcljdkbaa
open Go Go.NS


set_option maxRecDepth 4000 in
set_option maxHeartbeats 4000000 in
theorem ModalRight_ok (m n : Mo) (hm : m.Small) (hn : n.Small) (v : Ve) (hv : v.Small) : Fp Try.prog 8 [m.av, n.av, v.av] (abool true) := by
  have hvp := hv.p
  have hvw := hv.w
  refine Fp.of_vc tok Try.func8 rfl (by decide) ?_
  simp -implicitDefEqProofs only [go_sem, Try.ntmps8, Mo.av, Mo.cells, Ve.av]
  refine newK_intro fun n3 hn3 => ?_
  try simp -implicitDefEqProofs only [hset, List.map_append, List.map_cons, List.map_nil, List.cons_append, List.nil_append, List.mem_cons, List.mem_append, List.not_mem_nil, or_false, not_or] at hn3
  simp -implicitDefEqProofs only [go_sem]
  refine newK_intro fun n4 hn4 => ?_
  try simp -implicitDefEqProofs only [hset, List.map_append, List.map_cons, List.map_nil, List.cons_append, List.nil_append, List.mem_cons, List.mem_append, List.not_mem_nil, or_false, not_or] at hn4
  simp -implicitDefEqProofs only [go_sem]
  refine newK_intro fun n5 hn5 => ?_
  try simp -implicitDefEqProofs only [hset, List.map_append, List.map_cons, List.map_nil, List.cons_append, List.nil_append, List.mem_cons, List.mem_append, List.not_mem_nil, or_false, not_or] at hn5
  simp -implicitDefEqProofs only [go_sem, hn3, hn4, hn5, not_false_eq_true]
  refine opK_pure (light_ok m hm) rfl (Sub.of_eq (by first | rfl | simp -implicitDefEqProofs only [go_sem])) ?_
  simp -implicitDefEqProofs only [go_sem, hn3, hn4, hn5, not_false_eq_true]
  cases hL1 : lightM m with
  | false =>
    simp -implicitDefEqProofs only [go_sem, hn3, hn4, hn5, not_false_eq_true]
    refine opK_pure (awakeM_ok) rfl (Sub.of_eq (by first | rfl | simp -implicitDefEqProofs only [go_sem])) ?_
    simp -implicitDefEqProofs only [go_sem, hn3, hn4, hn5, not_false_eq_true]
    refine fnPost_ret tok ?_
    simp -implicitDefEqProofs only [go_sem, Try.results8]
  | true =>
  simp -implicitDefEqProofs only [go_sem, hn3, hn4, hn5, not_false_eq_true]
  refine opK_pure (light_ok n hn) rfl (Sub.of_eq (by first | rfl | simp -implicitDefEqProofs only [go_sem])) ?_
  simp -implicitDefEqProofs only [go_sem, hn3, hn4, hn5, not_false_eq_true]
  cases hL2 : lightM n with
  | false =>
    simp -implicitDefEqProofs only [go_sem, hn3, hn4, hn5, not_false_eq_true]
    refine opK_pure (awakeM_ok) rfl (Sub.of_eq (by first | rfl | simp -implicitDefEqProofs only [go_sem])) ?_
    simp -implicitDefEqProofs only [go_sem, hn3, hn4, hn5, not_false_eq_true]
    refine fnPost_ret tok ?_
    simp -implicitDefEqProofs only [go_sem, Try.results8]
  | true =>
  simp -implicitDefEqProofs only [go_sem, hn3, hn4, hn5, not_false_eq_true, intsA, iA, pairsA, pc_div]
  by_cases hL3 : (v.pairs.length : Int) > 1500
  · simp -implicitDefEqProofs only [go_sem, hL3, decide_true, hn3, hn4, hn5, not_false_eq_true]
    refine opK_pure (awakeM_ok) rfl (Sub.of_eq (by first | rfl | simp -implicitDefEqProofs only [go_sem])) ?_
    simp -implicitDefEqProofs only [go_sem, hn3, hn4, hn5, not_false_eq_true]
    refine fnPost_ret tok ?_
    simp -implicitDefEqProofs only [go_sem, Try.results8]
  simp -implicitDefEqProofs only [go_sem, hL3, decide_false, hn3, hn4, hn5, not_false_eq_true]
  by_cases hL4 : (v.word.length : Int) > 3000
  · simp -implicitDefEqProofs only [go_sem, hL4, decide_true, hn3, hn4, hn5, not_false_eq_true]
    refine opK_pure (awakeM_ok) rfl (Sub.of_eq (by first | rfl | simp -implicitDefEqProofs only [go_sem])) ?_
    simp -implicitDefEqProofs only [go_sem, hn3, hn4, hn5, not_false_eq_true]
    refine fnPost_ret tok ?_
    simp -implicitDefEqProofs only [go_sem, Try.results8]
  simp -implicitDefEqProofs only [go_sem, hL4, decide_false, hn3, hn4, hn5, not_false_eq_true]
  have hF : Fp Try.prog 14 [m.av, n.av] (iA (fineE m n)) := fault_ok m n hm hn
  have hR : Fp Try.prog 41 [m.av, n.av, v.av] (.tup [abool (rightB m n v), iA (fineE m n)]) := RightM_ok m n hm hn v hv
  refine opK_pure (hF) rfl (Sub.of_eq (by first | rfl | simp -implicitDefEqProofs only [go_sem])) ?_
  by_cases c0 : fineE m n = 0
  rotate_left
  · have er : rightB m n v = false := by simp [rightB, c0]
    simp -implicitDefEqProofs only [go_sem, c0, decide_false, hn3, hn4, hn5, not_false_eq_true, iA]
    refine AW.draw tok hmix ⟨[], [], [], false⟩ (by kernel_rfl) (Has.of_sub (List.nil_sublist _)) ?_
    simp -implicitDefEqProofs only [go_sem, hn3, hn4, hn5, not_false_eq_true]
    refine opK_pure (CopyM_ok m hm) rfl (Sub.of_eq (by first | rfl | simp -implicitDefEqProofs only [go_sem])) ?_
    simp -implicitDefEqProofs only [go_sem, hn3, hn4, hn5, not_false_eq_true]
    refine opK_pure (CopyM_ok n hn) rfl (Sub.of_eq (by first | rfl | simp -implicitDefEqProofs only [go_sem])) ?_
    simp -implicitDefEqProofs only [go_sem, hn3, hn4, hn5, not_false_eq_true]
    refine opK_appendImm tok rfl rfl T30 rfl T65 (by decide) rfl (by decide) (by simp only [pc_length]; omega) ?_
    simp -implicitDefEqProofs only [go_sem, hn3, hn4, hn5, not_false_eq_true]
    refine opK_appendImm tok rfl rfl T33 rfl T3 (by decide) rfl (by decide) (by simp only [List.length_map, Nat.div_one]; omega) ?_
    simp -implicitDefEqProofs only [go_sem, hn3, hn4, hn5, not_false_eq_true]
    refine opK_pure (hR) rfl (Sub.of_eq (by first | rfl | simp -implicitDefEqProofs only [go_sem])) ?_
    simp -implicitDefEqProofs only [go_sem, hn3, hn4, hn5, not_false_eq_true, er, iA]
    refine opK_pure (awakeM_ok) rfl (Sub.of_eq (by first | rfl | simp -implicitDefEqProofs only [go_sem])) ?_
    simp -implicitDefEqProofs only [go_sem, hn3, hn4, hn5, not_false_eq_true]
    refine fnPost_ret tok ?_
    simp -implicitDefEqProofs only [go_sem, Try.results8]
  have C := fine_cmp c0
  have eB : rightB m n v = rightN m n m.acts.length v := by simp [rightB, c0]
  simp -implicitDefEqProofs only [go_sem, c0, decide_true, hn3, hn4, hn5, not_false_eq_true, iA]
  cases hh : v.holds with
  | true =>
    rw [show v.av = AV.agg [abool true, pairsA v.pairs, intsA v.word] by simp only [Ve.av, hh]] at hR
    simp -implicitDefEqProofs only [go_sem, hn3, hn4, hn5, not_false_eq_true, intsA]
    by_cases hw : v.word.length = 0
    · have hw' : ((v.word.length : Nat) : Int) = 0 := by omega
      have e : rightB m n v = relB m n m.acts.length v.pairs := by rw [eB]; simp [rightN, hh, hw]
      simp -implicitDefEqProofs only [go_sem, hw', decide_true, hn3, hn4, hn5, not_false_eq_true]
      refine opK_pure (IsRelationM_ok m n C.m C.n v.pairs hvp) rfl (Sub.of_eq (by first | rfl | simp -implicitDefEqProofs only [go_sem])) ?_
      simp -implicitDefEqProofs only [go_sem, hn3, hn4, hn5, not_false_eq_true]
      refine AW.draw tok hmix ⟨[], [], [], false⟩ (by kernel_rfl) (Has.of_sub (List.nil_sublist _)) ?_
      simp -implicitDefEqProofs only [go_sem, hn3, hn4, hn5, not_false_eq_true]
      refine opK_pure (CopyM_ok m hm) rfl (Sub.of_eq (by first | rfl | simp -implicitDefEqProofs only [go_sem])) ?_
      simp -implicitDefEqProofs only [go_sem, hn3, hn4, hn5, not_false_eq_true]
      refine opK_pure (CopyM_ok n hn) rfl (Sub.of_eq (by first | rfl | simp -implicitDefEqProofs only [go_sem])) ?_
      simp -implicitDefEqProofs only [go_sem, hn3, hn4, hn5, not_false_eq_true]
      refine opK_appendImm tok rfl rfl T30 rfl T65 (by decide) rfl (by decide) (by simp only [pc_length]; omega) ?_
      simp -implicitDefEqProofs only [go_sem, hn3, hn4, hn5, not_false_eq_true]
      refine opK_appendImm tok rfl rfl T33 rfl T3 (by decide) rfl (by decide) (by simp only [List.length_map, Nat.div_one]; omega) ?_
      simp -implicitDefEqProofs only [go_sem, hn3, hn4, hn5, not_false_eq_true]
      refine opK_pure (hR) rfl (Sub.of_eq (by first | rfl | simp -implicitDefEqProofs only [go_sem])) ?_
      simp -implicitDefEqProofs only [go_sem, hn3, hn4, hn5, not_false_eq_true, e, c0, iA]
      refine opK_pure (awakeM_ok) rfl (Sub.of_eq (by first | rfl | simp -implicitDefEqProofs only [go_sem])) ?_
      simp -implicitDefEqProofs only [go_sem, hn3, hn4, hn5, not_false_eq_true]
      refine fnPost_ret tok ?_
      simp -implicitDefEqProofs only [go_sem, Try.results8]
    · have hw' : ¬ ((v.word.length : Nat) : Int) = 0 := by omega
      have e : rightB m n v = false := by rw [eB]; simp only [rightN, hh, hw, decide_false, Bool.false_and, if_true]
      simp -implicitDefEqProofs only [go_sem, hw', decide_false, hn3, hn4, hn5, not_false_eq_true]
      refine AW.draw tok hmix ⟨[], [], [], false⟩ (by kernel_rfl) (Has.of_sub (List.nil_sublist _)) ?_
      simp -implicitDefEqProofs only [go_sem, hn3, hn4, hn5, not_false_eq_true]
      refine opK_pure (CopyM_ok m hm) rfl (Sub.of_eq (by first | rfl | simp -implicitDefEqProofs only [go_sem])) ?_
      simp -implicitDefEqProofs only [go_sem, hn3, hn4, hn5, not_false_eq_true]
      refine opK_pure (CopyM_ok n hn) rfl (Sub.of_eq (by first | rfl | simp -implicitDefEqProofs only [go_sem])) ?_
      simp -implicitDefEqProofs only [go_sem, hn3, hn4, hn5, not_false_eq_true]
      refine opK_appendImm tok rfl rfl T30 rfl T65 (by decide) rfl (by decide) (by simp only [pc_length]; omega) ?_
      simp -implicitDefEqProofs only [go_sem, hn3, hn4, hn5, not_false_eq_true]
      refine opK_appendImm tok rfl rfl T33 rfl T3 (by decide) rfl (by decide) (by simp only [List.length_map, Nat.div_one]; omega) ?_
      simp -implicitDefEqProofs only [go_sem, hn3, hn4, hn5, not_false_eq_true]
      refine opK_pure (hR) rfl (Sub.of_eq (by first | rfl | simp -implicitDefEqProofs only [go_sem])) ?_
      simp -implicitDefEqProofs only [go_sem, hn3, hn4, hn5, not_false_eq_true, e, c0, iA]
      refine opK_pure (awakeM_ok) rfl (Sub.of_eq (by first | rfl | simp -implicitDefEqProofs only [go_sem])) ?_
      simp -implicitDefEqProofs only [go_sem, hn3, hn4, hn5, not_false_eq_true]
      refine fnPost_ret tok ?_
      simp -implicitDefEqProofs only [go_sem, Try.results8]
  | false =>
    rw [show v.av = AV.agg [abool false, pairsA v.pairs, intsA v.word] by simp only [Ve.av, hh]] at hR
    simp -implicitDefEqProofs only [go_sem, hn3, hn4, hn5, not_false_eq_true, pairsA, pc_div]
    by_cases hw : v.pairs.length = 0
    · have hw' : ((v.pairs.length : Nat) : Int) = 0 := by omega
      have e : rightB m n v = gapB m n m.acts.length v.word := by rw [eB]; simp [rightN, hh, hw]
      simp -implicitDefEqProofs only [go_sem, hw', decide_true, hn3, hn4, hn5, not_false_eq_true]
      refine opK_pure (IsGapM_ok m n C.m C.n v.word hvw) rfl (Sub.of_eq (by first | rfl | simp -implicitDefEqProofs only [go_sem])) ?_
      simp -implicitDefEqProofs only [go_sem, hn3, hn4, hn5, not_false_eq_true]
      refine AW.draw tok hmix ⟨[], [], [], false⟩ (by kernel_rfl) (Has.of_sub (List.nil_sublist _)) ?_
      simp -implicitDefEqProofs only [go_sem, hn3, hn4, hn5, not_false_eq_true]
      refine opK_pure (CopyM_ok m hm) rfl (Sub.of_eq (by first | rfl | simp -implicitDefEqProofs only [go_sem])) ?_
      simp -implicitDefEqProofs only [go_sem, hn3, hn4, hn5, not_false_eq_true]
      refine opK_pure (CopyM_ok n hn) rfl (Sub.of_eq (by first | rfl | simp -implicitDefEqProofs only [go_sem])) ?_
      simp -implicitDefEqProofs only [go_sem, hn3, hn4, hn5, not_false_eq_true]
      refine opK_appendImm tok rfl rfl T30 rfl T65 (by decide) rfl (by decide) (by simp only [pc_length]; omega) ?_
      simp -implicitDefEqProofs only [go_sem, hn3, hn4, hn5, not_false_eq_true]
      refine opK_appendImm tok rfl rfl T33 rfl T3 (by decide) rfl (by decide) (by simp only [List.length_map, Nat.div_one]; omega) ?_
      simp -implicitDefEqProofs only [go_sem, hn3, hn4, hn5, not_false_eq_true]
      refine opK_pure (hR) rfl (Sub.of_eq (by first | rfl | simp -implicitDefEqProofs only [go_sem])) ?_
      simp -implicitDefEqProofs only [go_sem, hn3, hn4, hn5, not_false_eq_true, e, c0, iA]
      refine opK_pure (awakeM_ok) rfl (Sub.of_eq (by first | rfl | simp -implicitDefEqProofs only [go_sem])) ?_
      simp -implicitDefEqProofs only [go_sem, hn3, hn4, hn5, not_false_eq_true]
      refine fnPost_ret tok ?_
      simp -implicitDefEqProofs only [go_sem, Try.results8]
    · have hw' : ¬ ((v.pairs.length : Nat) : Int) = 0 := by omega
      have e : rightB m n v = false := by rw [eB]; simp only [rightN, hh, hw, decide_false, Bool.false_and, Bool.false_eq_true, if_false]
      simp -implicitDefEqProofs only [go_sem, hw', decide_false, hn3, hn4, hn5, not_false_eq_true]
      refine AW.draw tok hmix ⟨[], [], [], false⟩ (by kernel_rfl) (Has.of_sub (List.nil_sublist _)) ?_
      simp -implicitDefEqProofs only [go_sem, hn3, hn4, hn5, not_false_eq_true]
      refine opK_pure (CopyM_ok m hm) rfl (Sub.of_eq (by first | rfl | simp -implicitDefEqProofs only [go_sem])) ?_
      simp -implicitDefEqProofs only [go_sem, hn3, hn4, hn5, not_false_eq_true]
      refine opK_pure (CopyM_ok n hn) rfl (Sub.of_eq (by first | rfl | simp -implicitDefEqProofs only [go_sem])) ?_
      simp -implicitDefEqProofs only [go_sem, hn3, hn4, hn5, not_false_eq_true]
      refine opK_appendImm tok rfl rfl T30 rfl T65 (by decide) rfl (by decide) (by simp only [pc_length]; omega) ?_
      simp -implicitDefEqProofs only [go_sem, hn3, hn4, hn5, not_false_eq_true]
      refine opK_appendImm tok rfl rfl T33 rfl T3 (by decide) rfl (by decide) (by simp only [List.length_map, Nat.div_one]; omega) ?_
      simp -implicitDefEqProofs only [go_sem, hn3, hn4, hn5, not_false_eq_true]
      refine opK_pure (hR) rfl (Sub.of_eq (by first | rfl | simp -implicitDefEqProofs only [go_sem])) ?_
      simp -implicitDefEqProofs only [go_sem, hn3, hn4, hn5, not_false_eq_true, e, c0, iA]
      refine opK_pure (awakeM_ok) rfl (Sub.of_eq (by first | rfl | simp -implicitDefEqProofs only [go_sem])) ?_
      simp -implicitDefEqProofs only [go_sem, hn3, hn4, hn5, not_false_eq_true]
      refine fnPost_ret tok ?_
      simp -implicitDefEqProofs only [go_sem, Try.results8]

theorem ModalRight_fc (xs : List AV) (h : ShAs TT0 [25, 25, 35] xs) : Fc Try.prog 8 xs [] fun x _ => x = abool true := by
  cases h with
  | cons h1 h =>
  cases h with
  | cons h2 h =>
  cases h with
  | cons h3 h =>
  cases h
  obtain ⟨m, hm, rfl⟩ := shA_mo h1
  obtain ⟨n, hn, rfl⟩ := shA_mo h2
  obtain ⟨v, hv, rfl⟩ := shA_verdict h3
  exact ModalRight_ok m n hm hn v hv
end Go.Proofs.Ytfininfcljdkbaa
