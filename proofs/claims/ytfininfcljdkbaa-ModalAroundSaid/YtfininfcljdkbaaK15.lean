/- Modal specifications, part Pj: the law ModalAround. -/
import Derived.Test.YtfininfcljdkbaaK8
import Derived.Test.YtfininfcljdkbaaK9
import Derived.Test.YtfininfcljdkbaaK11
set_option linter.unusedSimpArgs false
set_option linter.unusedVariables false
namespace Go.Proofs.Ytfininfcljdkbaa
open Go Go.NS

theorem le_zeroM : Le (.agg [.raw (.slice none 0 0), .raw (.slice none 0 0)]) Mo.zero.av := Le.agg (Les.cons (Le.nil 1) (Les.cons (Le.nil 2) Les.nil))


set_option maxRecDepth 4000 in
set_option maxHeartbeats 4000000 in
theorem ModalAround_ok (s : Sp) (hs : s.Small) (hf : s.Fit) : Fp Try.prog 4 [s.av] (abool true) := by
  refine Fp.of_vc tok Try.func4 rfl (by decide) ?_
  simp -implicitDefEqProofs only [go_sem, Try.ntmps4, Sp.av, Sp.cells]
  refine newK_intro fun n1 hn1 => ?_
  try simp -implicitDefEqProofs only [hset, List.map_append, List.map_cons, List.map_nil, List.cons_append, List.nil_append, List.mem_cons, List.mem_append, List.not_mem_nil, or_false, not_or] at hn1
  simp -implicitDefEqProofs only [go_sem, stC_div]
  by_cases hL3 : (s.sts.length : Int) > 60
  · simp -implicitDefEqProofs only [go_sem, hL3, decide_true]
    refine opK_pure (awakeM_ok) rfl (Sub.of_eq (by first | rfl | simp -implicitDefEqProofs only [go_sem])) ?_
    simp -implicitDefEqProofs only [go_sem]
    refine fnPost_ret tok ?_
    simp -implicitDefEqProofs only [go_sem, Try.results4]
  simp -implicitDefEqProofs only [go_sem, hL3, decide_false]
  refine opK_pure (FewS_ok s hs 1500 (by omega)) rfl (Sub.of_eq (by first | rfl | simp -implicitDefEqProofs only [go_sem])) ?_
  cases hL : s.fewB 1500 with
  | false =>
    simp -implicitDefEqProofs only [go_sem]
    refine opK_pure (awakeM_ok) rfl (Sub.of_eq (by first | rfl | simp -implicitDefEqProofs only [go_sem])) ?_
    simp -implicitDefEqProofs only [go_sem]
    refine fnPost_ret tok ?_
    simp -implicitDefEqProofs only [go_sem, Try.results4]
  | true =>
  simp -implicitDefEqProofs only [go_sem, iA]
  refine newK_intro fun n5 hn5 => ?_
  try simp -implicitDefEqProofs only [hset, List.map_append, List.map_cons, List.map_nil, List.cons_append, List.nil_append, List.mem_cons, List.mem_append, List.not_mem_nil, or_false, not_or] at hn5
  simp -implicitDefEqProofs only [go_sem, hn5, not_false_eq_true]
  refine opK_pure (IsS_ok s hs) rfl (Sub.of_eq (by first | rfl | simp -implicitDefEqProofs only [go_sem])) ?_
  have hz : Mo.zero.Small := ⟨by decide, by decide, by decide⟩
  have eZ : Mo.zero.sameB Mo.zero = true := by simp [Mo.sameB]
  cases hv : s.validB with
  | false =>
    have hR : aroundR s = .tup [Mo.zero.av, abool false, iA 30] := by unfold aroundR; rw [hv]; rfl
    simp -implicitDefEqProofs only [go_sem, hn5, not_false_eq_true]
    refine opK_pure (CopyS_ok s hs) rfl (Sub.of_eq (by first | rfl | simp -implicitDefEqProofs only [go_sem])) ?_
    simp -implicitDefEqProofs only [go_sem, hn5, not_false_eq_true]
    refine opK_pure (Around_ok s hs hf) rfl (Sub.of_eq (by first | rfl | simp -implicitDefEqProofs only [go_sem])) ?_
    simp -implicitDefEqProofs only [go_sem, hn5, not_false_eq_true, hR, Mo.av, Mo.cells]
    refine newK_intro fun n6 hn6 => ?_
    try simp -implicitDefEqProofs only [hset, List.map_append, List.map_cons, List.map_nil, List.cons_append, List.nil_append, List.mem_cons, List.mem_append, List.not_mem_nil, or_false, not_or] at hn6
    simp -implicitDefEqProofs only [go_sem, hn5, not_false_eq_true, hn6, iA, abool, decide_true]
    refine opK_pure (SameMo_ok Mo.zero Mo.zero hz hz) rfl (Sub.of_les (Les.cons (Le.refl _) (Les.cons le_zeroM Les.nil))) ?_
    simp -implicitDefEqProofs only [go_sem, hn5, not_false_eq_true, hn6, eZ]
    refine opK_pure (awakeM_ok) rfl (Sub.of_eq (by first | rfl | simp -implicitDefEqProofs only [go_sem])) ?_
    simp -implicitDefEqProofs only [go_sem, hn5, not_false_eq_true, hn6]
    refine fnPost_ret tok ?_
    simp -implicitDefEqProofs only [go_sem, Try.results4]
  | true =>
  have hV := Sp.validB_val hv
  have h0g := holsC_get (s := s) (x := 0) hV.pos
  have hcl := holsC_len s
  have hp0 := hV.pos
  simp -implicitDefEqProofs only [go_sem, hn5, not_false_eq_true]
  refine opK_pure (Hollow_ok s hV) rfl (Sub.of_eq (by first | rfl | simp -implicitDefEqProofs only [go_sem])) ?_
  simp -implicitDefEqProofs only [go_sem, hn5, not_false_eq_true, hcl, hp0, h0g, Nat.div_one]
  cases hh : holB s 0 with
  | true =>
    have hR : aroundR s = .tup [Mo.zero.av, abool false, iA 3] := by unfold aroundR; rw [if_pos hv, if_pos ((left_nil hV).2 hh)]
    simp -implicitDefEqProofs only [go_sem, hn5, not_false_eq_true]
    refine opK_pure (CopyS_ok s hs) rfl (Sub.of_eq (by first | rfl | simp -implicitDefEqProofs only [go_sem])) ?_
    simp -implicitDefEqProofs only [go_sem, hn5, not_false_eq_true]
    refine opK_pure (Around_ok s hs hf) rfl (Sub.of_eq (by first | rfl | simp -implicitDefEqProofs only [go_sem])) ?_
    simp -implicitDefEqProofs only [go_sem, hn5, not_false_eq_true, hR, Mo.av, Mo.cells]
    refine newK_intro fun n6 hn6 => ?_
    try simp -implicitDefEqProofs only [hset, List.map_append, List.map_cons, List.map_nil, List.cons_append, List.nil_append, List.mem_cons, List.mem_append, List.not_mem_nil, or_false, not_or] at hn6
    simp -implicitDefEqProofs only [go_sem, hn5, not_false_eq_true, hn6, iA, abool, decide_true]
    refine opK_pure (SameMo_ok Mo.zero Mo.zero hz hz) rfl (Sub.of_les (Les.cons (Le.refl _) (Les.cons le_zeroM Les.nil))) ?_
    simp -implicitDefEqProofs only [go_sem, hn5, not_false_eq_true, hn6, eZ]
    refine opK_pure (awakeM_ok) rfl (Sub.of_eq (by first | rfl | simp -implicitDefEqProofs only [go_sem])) ?_
    simp -implicitDefEqProofs only [go_sem, hn5, not_false_eq_true, hn6]
    refine fnPost_ret tok ?_
    simp -implicitDefEqProofs only [go_sem, Try.results4]
  | false =>
  have hne : leftN s s.acts.length ≠ [] := fun h => by rw [(left_nil hV).1 h] at hh; cases hh
  have hR : aroundR s = .tup [(arM (trimS s s.acts.length)).av, abool (arB (trimS s s.acts.length) (trimS s s.acts.length).sts.length), iA 0] := by unfold aroundR; rw [if_pos hv, if_neg hne]
  have hAV := arM_val (trimS_val hV hne) (trim_acc' hV hne)
  have hE := EqualR_ok (arS s s.acts.length) s (arS_val hV hne) hV
  rw [around_law hV hne] at hE
  obtain ⟨u, hu⟩ : ∃ u, u = arM (trimS s s.acts.length) := ⟨_, rfl⟩
  have hA := AroundR_ok s hV hne
  have hus : (arS s s.acts.length) = u.whole := by rw [hu]; rfl
  rw [hus] at hE
  rw [← hu] at hR hAV hA
  have eS : u.sameB u = true := by simp [Mo.sameB]
  have hSm := hAV.small
  simp -implicitDefEqProofs only [go_sem, hn5, not_false_eq_true]
  refine opK_pure (hA) rfl (Sub.of_eq (by first | rfl | simp -implicitDefEqProofs only [go_sem])) ?_
  simp -implicitDefEqProofs only [go_sem, hn5, not_false_eq_true, Mo.av, Mo.cells]
  refine AW.draw tok hmix ⟨[], [], [], false⟩ (by kernel_rfl) (Has.of_sub (List.nil_sublist _)) ?_
  simp -implicitDefEqProofs only [go_sem, hn5, not_false_eq_true]
  refine opK_pure (SpecR_ok u hAV) rfl (Sub.of_eq (by first | rfl | simp -implicitDefEqProofs only [go_sem])) ?_
  simp -implicitDefEqProofs only [go_sem, hn5, not_false_eq_true]
  refine opK_pure (hE) rfl (Sub.of_eq (by first | rfl | simp -implicitDefEqProofs only [go_sem])) ?_
  simp -implicitDefEqProofs only [go_sem, hn5, not_false_eq_true]
  refine opK_pure (CopyS_ok s hs) rfl (Sub.of_eq (by first | rfl | simp -implicitDefEqProofs only [go_sem])) ?_
  simp -implicitDefEqProofs only [go_sem, hn5, not_false_eq_true]
  refine opK_pure (Around_ok s hs hf) rfl (Sub.of_eq (by first | rfl | simp -implicitDefEqProofs only [go_sem])) ?_
  simp -implicitDefEqProofs only [go_sem, hn5, not_false_eq_true, hR, Mo.av, Mo.cells]
  refine newK_intro fun n6 hn6 => ?_
  try simp -implicitDefEqProofs only [hset, List.map_append, List.map_cons, List.map_nil, List.cons_append, List.nil_append, List.mem_cons, List.mem_append, List.not_mem_nil, or_false, not_or] at hn6
  simp -implicitDefEqProofs only [go_sem, hn5, not_false_eq_true, hn6, iA, abool, decide_true]
  refine opK_pure (SameMo_ok u u hSm hSm) rfl (Sub.of_eq (by first | rfl | simp -implicitDefEqProofs only [go_sem])) ?_
  simp -implicitDefEqProofs only [go_sem, hn5, not_false_eq_true, hn6, eS]
  refine opK_pure (awakeM_ok) rfl (Sub.of_eq (by first | rfl | simp -implicitDefEqProofs only [go_sem])) ?_
  simp -implicitDefEqProofs only [go_sem, hn5, not_false_eq_true, hn6]
  refine fnPost_ret tok ?_
  simp -implicitDefEqProofs only [go_sem, Try.results4]

theorem ModalAround_fc (xs : List AV) (h : ShAs TT0 [45] xs) : Fc Try.prog 4 xs [] fun x _ => x = abool true := by
  cases h with
  | cons h1 h =>
  cases h
  obtain ⟨s, hs, hf, rfl⟩ := shA_sp h1
  exact ModalAround_ok s hs hf
end Go.Proofs.Ytfininfcljdkbaa
