/- The law RefineTells. -/
import Derived.Test.YtfininfcljdkbaaGreatR20
set_option linter.unusedSimpArgs false
set_option linter.unusedVariables false
namespace Go.Proofs.YtfininfcljdkbaaGreat
open Go Go.NS

set_option maxRecDepth 4000 in
set_option maxHeartbeats 4000000 in
theorem RefineTells_ok (s t : Sp) (hs : s.Small) (ht : t.Small) (hf : s.Fit) (hg : t.Fit) : Fp Tryz.prog 5 [s.av, t.av] (abool true) := by
  refine Fp.of_vc tok Tryz.func5 rfl (by decide) ?_
  simp -implicitDefEqProofs only [go_sem, Tryz.ntmps5, Sp.av, Sp.cells]
  refine newK_intro fun n2 hn2 => ?_
  try simp -implicitDefEqProofs only [hset, List.map_append, List.map_cons, List.map_nil, List.cons_append, List.nil_append, List.mem_cons, List.mem_append, List.not_mem_nil, or_false, not_or] at hn2
  simp -implicitDefEqProofs only [go_sem]
  refine newK_intro fun n3 hn3 => ?_
  try simp -implicitDefEqProofs only [hset, List.map_append, List.map_cons, List.map_nil, List.cons_append, List.nil_append, List.mem_cons, List.mem_append, List.not_mem_nil, or_false, not_or] at hn3
  simp -implicitDefEqProofs only [go_sem, hn3, not_false_eq_true]
  refine opK_pure (light5_ok s hs) rfl (Sub.of_eq (by first | rfl | simp -implicitDefEqProofs only [go_sem])) ?_
  simp -implicitDefEqProofs only [go_sem, hn3, not_false_eq_true]
  cases hL1 : (decide ((s.sts.length : Int) ≤ 40) && s.fewB 1000) with
  | false =>
    simp -implicitDefEqProofs only [go_sem, hn3, not_false_eq_true]
    refine opK_pure (awake5_ok) rfl (Sub.of_eq (by first | rfl | simp -implicitDefEqProofs only [go_sem])) ?_
    simp -implicitDefEqProofs only [go_sem, hn3, not_false_eq_true]
    refine fnPost_ret tok ?_
    simp -implicitDefEqProofs only [go_sem, Tryz.results5]
  | true =>
  simp -implicitDefEqProofs only [go_sem, hn3, not_false_eq_true]
  refine opK_pure (light5_ok t ht) rfl (Sub.of_eq (by first | rfl | simp -implicitDefEqProofs only [go_sem])) ?_
  simp -implicitDefEqProofs only [go_sem, hn3, not_false_eq_true]
  cases hL2 : (decide ((t.sts.length : Int) ≤ 40) && t.fewB 1000) with
  | false =>
    simp -implicitDefEqProofs only [go_sem, hn3, not_false_eq_true]
    refine opK_pure (awake5_ok) rfl (Sub.of_eq (by first | rfl | simp -implicitDefEqProofs only [go_sem])) ?_
    simp -implicitDefEqProofs only [go_sem, hn3, not_false_eq_true]
    refine fnPost_ret tok ?_
    simp -implicitDefEqProofs only [go_sem, Tryz.results5]
  | true =>
  simp -implicitDefEqProofs only [go_sem, hn3, not_false_eq_true]
  refine opK_pure (both5_ok s t hs ht) rfl (Sub.of_eq (by first | rfl | simp -implicitDefEqProofs only [go_sem])) ?_
  simp -implicitDefEqProofs only [go_sem, hn3, not_false_eq_true, iA]
  by_cases c0 : fineS s t = 0
  rotate_left
  · simp -implicitDefEqProofs only [go_sem, c0, decide_false, hn3, not_false_eq_true]
    refine AW.drawPF tok hmix false [] [33] [0, 1, 2, 3, 4, 5, 6, 7, 8, 9, 10] ([]) (by kernel_rfl) ?_ ?_
    · exact List.nil_sublist _
    simp -implicitDefEqProofs only [go_sem, hn3, not_false_eq_true]
    refine opK_pure (CopyS_ok s hs) rfl (Sub.of_eq (by first | rfl | simp -implicitDefEqProofs only [go_sem])) ?_
    simp -implicitDefEqProofs only [go_sem, hn3, not_false_eq_true]
    refine opK_pure (CopyS_ok t ht) rfl (Sub.of_eq (by first | rfl | simp -implicitDefEqProofs only [go_sem])) ?_
    simp -implicitDefEqProofs only [go_sem, hn3, not_false_eq_true]
    refine opK_callNew rfl (RefinesV_fc s t hs ht hf hg) rfl (Sub.of_eq (by first | rfl | simp -implicitDefEqProofs only [go_sem, Sp.av, Sp.cells])) (refV_plenty s t) ?_
    rintro x H1 ⟨rfl, v, hv, rfl, -, hz⟩ hnd
    obtain rfl := hz c0
    simp -implicitDefEqProofs only [go_sem, hn3, not_false_eq_true, Vd.av, Vd.cells, Vd.zero, iA]
    refine newK_intro fun n7 hn7 => ?_
    try simp -implicitDefEqProofs only [hset, List.map_append, List.map_cons, List.map_nil, List.cons_append, List.nil_append, List.mem_cons, List.mem_append, List.not_mem_nil, or_false, not_or] at hn7
    simp -implicitDefEqProofs only [go_sem, hn3, not_false_eq_true, hn7, decide_true]
    have d0 : decide ((0 : Int) = 0) = true := by decide
    have d1 : IntKind.i64.wrap ((0 : Int) + 0) = 0 := by decide
    simp -implicitDefEqProofs only [go_sem, c0, decide_false, hn3, not_false_eq_true, hn7, intsA, pairsA, List.map_nil, List.length_nil, pc_nil, Nat.zero_div, Int.natCast_zero, d0, d1]
    refine opK_pure (NoneSy_ok ⟨[], []⟩) rfl (Sub.of_eq (by first | rfl | simp -implicitDefEqProofs only [go_sem, Sy.av, Sy.cells, List.map_nil])) ?_
    simp -implicitDefEqProofs only [go_sem, hn3, not_false_eq_true, hn7, List.length_nil, decide_true, Bool.and_self]
    refine opK_pure (awake5_ok) rfl (Sub.of_eq (by first | rfl | simp -implicitDefEqProofs only [go_sem])) ?_
    simp -implicitDefEqProofs only [go_sem, hn3, not_false_eq_true, hn7]
    refine fnPost_ret tok ?_
    simp -implicitDefEqProofs only [go_sem, Tryz.results5]
  have C := fineS_cmp c0
  simp -implicitDefEqProofs only [go_sem, c0, decide_true, hn3, not_false_eq_true]
  refine opK_pure (RefinesR_ok s t C.m C.n) rfl (Sub.of_eq (by first | rfl | simp -implicitDefEqProofs only [go_sem])) ?_
  simp -implicitDefEqProofs only [go_sem, hn3, not_false_eq_true]
  refine AW.drawPF tok hmix false [] [33] [0, 1, 2, 3, 4, 5, 6, 7, 8, 9, 10] ([]) (by kernel_rfl) ?_ ?_
  · exact List.nil_sublist _
  simp -implicitDefEqProofs only [go_sem, hn3, not_false_eq_true]
  refine opK_pure (CopyS_ok s hs) rfl (Sub.of_eq (by first | rfl | simp -implicitDefEqProofs only [go_sem])) ?_
  simp -implicitDefEqProofs only [go_sem, hn3, not_false_eq_true]
  refine opK_pure (CopyS_ok t ht) rfl (Sub.of_eq (by first | rfl | simp -implicitDefEqProofs only [go_sem])) ?_
  simp -implicitDefEqProofs only [go_sem, hn3, not_false_eq_true]
  refine opK_callNew rfl (RefinesV_fc s t hs ht hf hg) rfl (Sub.of_eq (by first | rfl | simp -implicitDefEqProofs only [go_sem, Sp.av, Sp.cells])) (refV_plenty s t) ?_
  rintro x H1 ⟨rfl, v, hv, rfl, hr, -⟩ hnd
  obtain ⟨hh, hR⟩ := hr c0
  simp -implicitDefEqProofs only [go_sem, hn3, not_false_eq_true, Vd.av, Vd.cells, iA, c0, hh]
  refine newK_intro fun n7 hn7 => ?_
  try simp -implicitDefEqProofs only [hset, List.map_append, List.map_cons, List.map_nil, List.cons_append, List.nil_append, List.mem_cons, List.mem_append, List.not_mem_nil, or_false, not_or] at hn7
  have d2 : decide ((refB s t s.acts.length) = (refB s t s.acts.length)) = true := decide_eq_true rfl
  simp -implicitDefEqProofs only [go_sem, hn3, not_false_eq_true, hn7, decide_true, hh]
  refine opK_pure (right5_ok s t C.m C.n v hv) rfl (Sub.of_eq (by first | rfl | simp -implicitDefEqProofs only [go_sem, Vd.av, Vd.cells, Sp.av, Sp.cells, hh])) ?_
  simp -implicitDefEqProofs only [go_sem, hn3, not_false_eq_true, hn7, hR]
  refine opK_pure (awake5_ok) rfl (Sub.of_eq (by first | rfl | simp -implicitDefEqProofs only [go_sem])) ?_
  simp -implicitDefEqProofs only [go_sem, hn3, not_false_eq_true, hn7]
  refine fnPost_ret tok ?_
  simp -implicitDefEqProofs only [go_sem, Tryz.results5]

theorem RefineTells_fc (xs : List AV) (h : ShAs TT0 [25, 25] xs) : Fc Tryz.prog 5 xs [] fun x _ => x = abool true := by
  cases h with
  | cons h1 h =>
  cases h with
  | cons h2 h =>
  cases h
  obtain ⟨s, hs, hf, rfl⟩ := shA_sp h1
  obtain ⟨t, ht, hg, rfl⟩ := shA_sp h2
  exact RefineTells_ok s t hs ht hf hg
end Go.Proofs.YtfininfcljdkbaaGreat
