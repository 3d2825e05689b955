/- The law RefineSound. -/
import Derived.Test.YtfininfcljdkbaaGreatR23
set_option linter.unusedSimpArgs false
set_option linter.unusedVariables false
namespace Go.Proofs.YtfininfcljdkbaaGreat
open Go Go.NS
def fineY (m : Sy) (s : Sp) : Int := if m.validB then (if s.validB then (if m.acts = s.acts then 0 else 10) else 30) else 20
theorem fineY_zero {m : Sy} {s : Sp} (h : fineY m s = 0) : m.Val m.acts.length ∧ s.Val m.acts.length ∧ m.acts = s.acts := by
  unfold fineY at h
  cases h1 : m.validB with
  | false => rw [h1] at h; simp at h
  | true =>
    cases h2 : s.validB with
    | false => rw [h1, h2] at h; simp at h
    | true =>
      rw [h1, h2] at h
      by_cases e : m.acts = s.acts
      · exact ⟨Sy.validB_val h1, by rw [e]; exact Sp.validB_val h2, e⟩
      · simp [e] at h
theorem fineY_of {m : Sy} {s : Sp} {k : Nat} (h1 : m.validB = true) (h2 : s.Val k) (e : m.acts = s.acts) : fineY m s = 0 := by
  unfold fineY
  rw [h1, val_valid h2]
  simp [e]
theorem FineY_ok (m : Sy) (s : Sp) (hm : m.Small) (hs : s.Small) (hf : s.Fit) : Fp Tryz.prog 56 [m.av, s.av] (iA (fineY m s)) := by
  refine Fp.of_vc tok Tryz.func56 rfl (by decide) ?_
  simp -implicitDefEqProofs only [go_sem, Tryz.ntmps56, Sy.av, Sy.cells, Sp.av, Sp.cells]
  refine newK_intro fun n2 hn2 => ?_
  try simp -implicitDefEqProofs only [hset, List.map_append, List.map_cons, List.map_nil, List.cons_append, List.nil_append, List.mem_cons, List.mem_append, List.not_mem_nil, or_false, not_or] at hn2
  simp -implicitDefEqProofs only [go_sem]
  refine newK_intro fun n3 hn3 => ?_
  try simp -implicitDefEqProofs only [hset, List.map_append, List.map_cons, List.map_nil, List.cons_append, List.nil_append, List.mem_cons, List.mem_append, List.not_mem_nil, or_false, not_or] at hn3
  simp -implicitDefEqProofs only [go_sem, hn3]
  refine opK_pure (ValidSy_ok m hm) rfl (Sub.of_eq (by first | rfl | simp -implicitDefEqProofs only [go_sem])) ?_
  cases c1 : m.validB with
  | false =>
    have e : fineY m s = 20 := by simp [fineY, c1]
    simp -implicitDefEqProofs only [go_sem]
    refine fnPost_ret tok ?_
    simp -implicitDefEqProofs only [go_sem, Tryz.results56, e, iA]
  | true =>
    simp -implicitDefEqProofs only [go_sem, hn3]
    refine opK_pure (ValidS_ok s hs hf) rfl (Sub.of_eq (by first | rfl | simp -implicitDefEqProofs only [go_sem])) ?_
    cases c2 : s.validB with
    | false =>
      have e : fineY m s = 30 := by simp [fineY, c1, c2]
      simp -implicitDefEqProofs only [go_sem]
      refine fnPost_ret tok ?_
      simp -implicitDefEqProofs only [go_sem, Tryz.results56, e, iA]
    | true =>
      simp -implicitDefEqProofs only [go_sem, hn3]
      refine opK_pure (Equal_ok m.acts s.acts hm.a hs.a) rfl (Sub.of_eq (by first | rfl | simp -implicitDefEqProofs only [go_sem])) ?_
      by_cases c3 : m.acts = s.acts
      · have e : fineY m s = 0 := by simp [fineY, c1, c2, c3]
        simp -implicitDefEqProofs only [go_sem, c3, decide_true]
        refine fnPost_ret tok ?_
        simp -implicitDefEqProofs only [go_sem, Tryz.results56, e, iA]
      · have e : fineY m s = 10 := by simp [fineY, c1, c2, c3]
        simp -implicitDefEqProofs only [go_sem, c3, decide_false]
        refine fnPost_ret tok ?_
        simp -implicitDefEqProofs only [go_sem, Tryz.results56, e, iA]
def satA (m : Sy) (s : Sp) : AV := .tup [.agg [abool (decide (fineY m s = 0) && satB m s), .junk, .junk, .junk], iA (fineY m s)]
theorem SatS_ok (m : Sy) (s : Sp) (hm : m.Small) (hs : s.Small) (hf : s.Fit) : Fp Tryz.prog 22 [m.av, s.av] (satA m s) := by
  refine Fp.of_vc tok Tryz.func22 rfl (by decide) ?_
  simp -implicitDefEqProofs only [go_sem, Tryz.ntmps22, Sy.av, Sy.cells, Sp.av, Sp.cells]
  refine newK_intro fun n2 hn2 => ?_
  try simp -implicitDefEqProofs only [hset, List.map_append, List.map_cons, List.map_nil, List.cons_append, List.nil_append, List.mem_cons, List.mem_append, List.not_mem_nil, or_false, not_or] at hn2
  simp -implicitDefEqProofs only [go_sem]
  refine newK_intro fun n3 hn3 => ?_
  try simp -implicitDefEqProofs only [hset, List.map_append, List.map_cons, List.map_nil, List.cons_append, List.nil_append, List.mem_cons, List.mem_append, List.not_mem_nil, or_false, not_or] at hn3
  simp -implicitDefEqProofs only [go_sem, hn3]
  refine newK_intro fun n4 hn4 => ?_
  try simp -implicitDefEqProofs only [hset, List.map_append, List.map_cons, List.map_nil, List.cons_append, List.nil_append, List.mem_cons, List.mem_append, List.not_mem_nil, or_false, not_or] at hn4
  simp -implicitDefEqProofs only [go_sem, hn3, hn4, not_false_eq_true]
  refine opK_pure (FineY_ok m s hm hs hf) rfl (Sub.of_eq (by first | rfl | simp -implicitDefEqProofs only [go_sem])) ?_
  simp -implicitDefEqProofs only [go_sem, iA]
  by_cases c0 : fineY m s = 0
  rotate_left
  · simp -implicitDefEqProofs only [go_sem, c0, decide_false, hn3, hn4, not_false_eq_true]
    refine fnPost_retLe tok ?_
    simp -implicitDefEqProofs only [go_sem, Tryz.results22, hn3, hn4, not_false_eq_true]
    refine ⟨_, ?_, by unfold satA; rw [decide_eq_false c0, Bool.false_and]⟩
    exact Le.tup (Les.cons (Le.agg (Les.cons (Le.refl _) (Les.cons (Le.junk _) (Les.cons (Le.junk _) (Les.cons (Le.junk _) Les.nil))))) (Les.cons (Le.refl _) Les.nil))
  obtain ⟨h1, h2, e⟩ := fineY_zero c0
  simp -implicitDefEqProofs only [go_sem, c0, decide_true, hn3, hn4, not_false_eq_true]
  refine opK_pure (JudgeS_ok m s h1 h2) rfl (Sub.of_eq (by first | rfl | simp -implicitDefEqProofs only [go_sem, Sy.av, Sy.cells, Sp.av, Sp.cells])) ?_
  simp -implicitDefEqProofs only [go_sem, hn3, hn4, not_false_eq_true]
  refine fnPost_ret tok ?_
  simp -implicitDefEqProofs only [go_sem, Tryz.results22, hn3, hn4, not_false_eq_true, satA, c0, decide_true, Bool.true_and, iA]
end Go.Proofs.YtfininfcljdkbaaGreat
