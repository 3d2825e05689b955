/- Modal specifications, part Nt: the law ModalSpecs. -/
import Derived.Test.YtfininfcljdkbaaK8
set_option linter.unusedSimpArgs false
set_option linter.unusedVariables false
namespace Go.Proofs.Ytfininfcljdkbaa
open Go Go.NS

theorem fault_specE (m : Mo) : faultM m m = m.specE := by
  unfold faultM Mo.specE
  cases m.validB <;> simp

set_option maxRecDepth 4000 in
set_option maxHeartbeats 2000000 in
theorem ModalSpecs_ok (m : Mo) (hm : m.Small) : Fp Try.prog 5 [m.av] (abool true) := by
  refine Fp.of_vc tok Try.func5 rfl (by decide) ?_
  simp -implicitDefEqProofs only [go_sem, Try.ntmps5, Mo.av, Mo.cells]
  refine newK_intro fun n1 hn1 => ?_
  try simp -implicitDefEqProofs only [hset, List.map_append, List.map_cons, List.map_nil, List.cons_append, List.nil_append, List.mem_cons, List.mem_append, List.not_mem_nil, or_false, not_or] at hn1
  simp -implicitDefEqProofs only [go_sem]
  refine opK_pure (light_ok m hm) rfl (Sub.of_eq (by first | rfl | simp -implicitDefEqProofs only [go_sem])) ?_
  simp -implicitDefEqProofs only [go_sem]
  cases hL : lightM m with
  | false =>
    simp -implicitDefEqProofs only [go_sem]
    refine opK_pure (awakeM_ok) rfl (Sub.of_eq (by first | rfl | simp -implicitDefEqProofs only [go_sem])) ?_
    simp -implicitDefEqProofs only [go_sem]
    refine fnPost_ret tok ?_
    simp -implicitDefEqProofs only [go_sem, Try.results5]
  | true =>
  simp -implicitDefEqProofs only [go_sem]
  refine opK_pure (fault_ok m m hm hm) rfl (Sub.of_eq (by first | rfl | simp -implicitDefEqProofs only [go_sem])) ?_
  simp -implicitDefEqProofs only [go_sem, fault_specE, iA]
  refine newK_intro fun n4 hn4 => ?_
  try simp -implicitDefEqProofs only [hset, List.map_append, List.map_cons, List.map_nil, List.cons_append, List.nil_append, List.mem_cons, List.mem_append, List.not_mem_nil, or_false, not_or] at hn4
  cases hv : m.validB with
  | true =>
    have e0 : m.specE = 0 := by simp [Mo.specE, hv]
    have eV : m.specV = m.whole := by simp [Mo.specV, hv]
    have hV := Mo.validB_val hv
    have hW := (whole_val hV).small
    have eS : m.whole.sameB m.whole = true := by simp [Sp.sameB]
    simp -implicitDefEqProofs only [go_sem, e0, hn4, not_false_eq_true, decide_true]
    refine opK_pure (SpecR_ok m hV) rfl (Sub.of_eq (by first | rfl | simp -implicitDefEqProofs only [go_sem])) ?_
    simp -implicitDefEqProofs only [go_sem, hn4, not_false_eq_true, Sp.av, Sp.cells]
    refine opK_pure (CopyM_ok m hm) rfl (Sub.of_eq (by first | rfl | simp -implicitDefEqProofs only [go_sem])) ?_
    simp -implicitDefEqProofs only [go_sem, hn4, not_false_eq_true]
    refine opK_pure (CheckM_ok m hm) rfl (Sub.of_eq (by first | rfl | simp -implicitDefEqProofs only [go_sem])) ?_
    simp -implicitDefEqProofs only [go_sem, hn4, not_false_eq_true, e0]
    refine opK_pure (CopyM_ok m hm) rfl (Sub.of_eq (by first | rfl | simp -implicitDefEqProofs only [go_sem])) ?_
    simp -implicitDefEqProofs only [go_sem, hn4, not_false_eq_true]
    refine opK_pure (SpecM_ok m hm) rfl (Sub.of_eq (by first | rfl | simp -implicitDefEqProofs only [go_sem])) ?_
    simp -implicitDefEqProofs only [go_sem, hn4, not_false_eq_true, e0, eV, Sp.av, Sp.cells]
    refine newK_intro fun n6 hn6 => ?_
    try simp -implicitDefEqProofs only [hset, List.map_append, List.map_cons, List.map_nil, List.cons_append, List.nil_append, List.mem_cons, List.mem_append, List.not_mem_nil, or_false, not_or] at hn6
    simp -implicitDefEqProofs only [go_sem, hn4, not_false_eq_true, hn6, iA, decide_true]
    refine opK_pure (SameSp_ok m.whole m.whole hW hW) rfl (Sub.of_eq (by first | rfl | simp -implicitDefEqProofs only [go_sem])) ?_
    simp -implicitDefEqProofs only [go_sem, hn4, not_false_eq_true, hn6, eS]
    refine opK_pure (awakeM_ok) rfl (Sub.of_eq (by first | rfl | simp -implicitDefEqProofs only [go_sem])) ?_
    simp -implicitDefEqProofs only [go_sem, hn4, not_false_eq_true, hn6]
    refine fnPost_ret tok ?_
    simp -implicitDefEqProofs only [go_sem, Try.results5]
  | false =>
    have e0 : m.specE = 100 := by simp [Mo.specE, hv]
    have eV : m.specV = Sp.zero := by simp [Mo.specV, hv]
    have h1 : decide ((100 : Int) = 0) = false := by decide
    have hz : Sp.zero.Small := ⟨by decide, by decide, by decide, by decide⟩
    have eS : Sp.zero.sameB Sp.zero = true := by simp [Sp.sameB]
    simp -implicitDefEqProofs only [go_sem, e0, hn4, not_false_eq_true, h1]
    refine opK_pure (CopyM_ok m hm) rfl (Sub.of_eq (by first | rfl | simp -implicitDefEqProofs only [go_sem])) ?_
    simp -implicitDefEqProofs only [go_sem, hn4, not_false_eq_true]
    refine opK_pure (CheckM_ok m hm) rfl (Sub.of_eq (by first | rfl | simp -implicitDefEqProofs only [go_sem])) ?_
    simp -implicitDefEqProofs only [go_sem, hn4, not_false_eq_true, e0]
    refine opK_pure (CopyM_ok m hm) rfl (Sub.of_eq (by first | rfl | simp -implicitDefEqProofs only [go_sem])) ?_
    simp -implicitDefEqProofs only [go_sem, hn4, not_false_eq_true]
    refine opK_pure (SpecM_ok m hm) rfl (Sub.of_eq (by first | rfl | simp -implicitDefEqProofs only [go_sem])) ?_
    simp -implicitDefEqProofs only [go_sem, hn4, not_false_eq_true, e0, eV, Sp.av, Sp.cells]
    refine newK_intro fun n6 hn6 => ?_
    try simp -implicitDefEqProofs only [hset, List.map_append, List.map_cons, List.map_nil, List.cons_append, List.nil_append, List.mem_cons, List.mem_append, List.not_mem_nil, or_false, not_or] at hn6
    simp -implicitDefEqProofs only [go_sem, hn4, not_false_eq_true, hn6, iA, decide_true]
    refine opK_pure (SameSp_ok Sp.zero Sp.zero hz hz) rfl (Sub.of_les (Les.cons (Le.refl _) (Les.cons le_zeroS Les.nil))) ?_
    simp -implicitDefEqProofs only [go_sem, hn4, not_false_eq_true, hn6, eS]
    refine opK_pure (awakeM_ok) rfl (Sub.of_eq (by first | rfl | simp -implicitDefEqProofs only [go_sem])) ?_
    simp -implicitDefEqProofs only [go_sem, hn4, not_false_eq_true, hn6]
    refine fnPost_ret tok ?_
    simp -implicitDefEqProofs only [go_sem, Try.results5]

theorem ModalSpecs_fc (xs : List AV) (h : ShAs TT0 [25] xs) : Fc Try.prog 5 xs [] fun x _ => x = abool true := by
  cases h with
  | cons h1 h =>
  cases h
  obtain ⟨m, hm, rfl⟩ := shA_mo h1
  exact ModalSpecs_ok m hm
end Go.Proofs.Ytfininfcljdkbaa
