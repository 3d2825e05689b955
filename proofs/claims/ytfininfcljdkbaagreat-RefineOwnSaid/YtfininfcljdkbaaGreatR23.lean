/- Systems, part Un: sizes and copies of systems; shapes; right verdicts, by the program. -/
import Derived.Test.YtfininfcljdkbaaGreatR22
import Derived.Test.YtfininfcljdkbaaGreatR17
set_option linter.unusedSimpArgs false
set_option linter.unusedVariables false
namespace Go.Proofs.YtfininfcljdkbaaGreat
open Go Go.NS
open Go Go.NS
def jdA (s t : Sp) (v : Vd) : AV := .agg [strsA s.acts, .imm 2 (stC s.sts), strsA t.acts, .imm 2 (stC t.sts), abool v.holds, intsA v.lad, pairsA v.pairs, strsA v.wit.acts, .imm 1 (v.wit.sts.map pairsA)]
theorem none_dec (w : Sy) : decide (((w.acts.length + w.sts.length : Nat) : Int) = 0) = w.noneB := by
  unfold Sy.noneB
  rw [← Bool.decide_and, decide_eq_decide]
  omega
theorem holds_ok (s t : Sp) {k : Nat} (hs : s.Val k) (ht : t.Val k) (v : Vd) (hv : v.Small) : Fp Tryz.prog 68 [jdA s t v] (abool (v.wit.noneB && proofB s t k v.lad v.pairs)) := by
  have hl := hv.l
  have hp := hv.p
  have h1 := hv.w.a
  have h2 := hv.w.n
  have hw : IntKind.i64.wrap ((v.wit.acts.length : Int) + (v.wit.sts.length : Int)) = ((v.wit.acts.length + v.wit.sts.length : Nat) : Int) := by rw [← Int.natCast_add]; exact wrap_nat (by omega)
  refine Fp.of_vc tok Tryz.func68 rfl (by decide) ?_
  simp -implicitDefEqProofs only [go_sem, Tryz.ntmps68, jdA]
  refine newK_intro fun n1 hn1 => ?_
  try simp -implicitDefEqProofs only [hset, frt] at hn1
  simp -implicitDefEqProofs only [go_sem, strsA, List.length_map, Nat.div_one, hw, none_dec]
  cases c : v.wit.noneB with
  | false =>
    simp -implicitDefEqProofs only [go_sem]
    refine fnPost_ret tok ?_
    simp -implicitDefEqProofs only [go_sem, Tryz.results68, Bool.false_and]
  | true =>
    simp -implicitDefEqProofs only [go_sem]
    refine opK_pure (proves_ok s t hs ht v.lad hl v.pairs hp) rfl (Sub.of_eq (by first | rfl | simp -implicitDefEqProofs only [go_sem, Sp.av, Sp.cells, strsA])) ?_
    simp -implicitDefEqProofs only [go_sem]
    refine fnPost_ret tok ?_
    simp -implicitDefEqProofs only [go_sem, Tryz.results68, Bool.true_and]
set_option maxHeartbeats 1000000 in
theorem fails_ok (s t : Sp) {k : Nat} (hs : s.Val k) (ht : t.Val k) (v : Vd) (hv : v.Small) : Fp Tryz.prog 67 [jdA s t v] (abool (decide (v.lad.length + v.pairs.length = 0) && (madeB v.wit s && !satB v.wit t))) := by
  have hl := hv.l
  have hp := hv.p
  have hw : IntKind.i64.wrap ((v.lad.length : Int) + (v.pairs.length : Int)) = ((v.lad.length + v.pairs.length : Nat) : Int) := by rw [← Int.natCast_add]; exact wrap_nat (by omega)
  have d : decide (((v.lad.length + v.pairs.length : Nat) : Int) = 0) = decide (v.lad.length + v.pairs.length = 0) := decide_eq_decide.2 (by omega)
  refine Fp.of_vc tok Tryz.func67 rfl (by decide) ?_
  simp -implicitDefEqProofs only [go_sem, Tryz.ntmps67, jdA]
  refine newK_intro fun n1 hn1 => ?_
  try simp -implicitDefEqProofs only [hset, frt] at hn1
  simp -implicitDefEqProofs only [go_sem]
  refine newK_intro fun n3 hn3 => ?_
  try simp -implicitDefEqProofs only [hset, frt] at hn3
  simp -implicitDefEqProofs only [go_sem, hn3, not_false_eq_true, intsA, pairsA, List.length_map, Nat.div_one, pc_div, hw, d]
  by_cases c : v.lad.length + v.pairs.length = 0
  rotate_left
  · simp -implicitDefEqProofs only [go_sem, c, decide_false, hn3, not_false_eq_true]
    refine fnPost_ret tok ?_
    simp -implicitDefEqProofs only [go_sem, Tryz.results67, c, decide_false, Bool.false_and]
  simp -implicitDefEqProofs only [go_sem, c, decide_true, hn3, not_false_eq_true]
  refine opK_pure (ValidSy_ok v.wit hv.w) rfl (Sub.of_eq (by first | rfl | simp -implicitDefEqProofs only [go_sem, Sy.av, Sy.cells])) ?_
  cases h1 : v.wit.validB with
  | false =>
    simp -implicitDefEqProofs only [go_sem, hn3, not_false_eq_true]
    refine fnPost_ret tok ?_
    simp -implicitDefEqProofs only [go_sem, Tryz.results67, c, decide_true, madeB, h1, Bool.false_and, Bool.and_false]
  | true =>
  simp -implicitDefEqProofs only [go_sem, hn3, not_false_eq_true]
  refine opK_pure (Equal_ok v.wit.acts s.acts hv.w.a hs.small.a) rfl (Sub.of_eq (by first | rfl | simp -implicitDefEqProofs only [go_sem])) ?_
  by_cases h2 : v.wit.acts = s.acts
  rotate_left
  · simp -implicitDefEqProofs only [go_sem, h2, decide_false, hn3, not_false_eq_true]
    refine fnPost_ret tok ?_
    simp -implicitDefEqProofs only [go_sem, Tryz.results67, c, decide_true, madeB, h1, h2, decide_false, Bool.false_and, Bool.and_false]
  have hV : v.wit.Val k := by
    have := Sy.validB_val h1
    rwa [show v.wit.acts.length = k by rw [h2]; exact hs.len] at this
  have d2 : decide (v.wit.acts = s.acts) = true := decide_eq_true h2
  simp -implicitDefEqProofs only [go_sem, d2, hn3, not_false_eq_true]
  refine opK_pure (JudgeS_ok v.wit s hV hs) rfl (Sub.of_eq (by first | rfl | simp -implicitDefEqProofs only [go_sem, Sy.av, Sy.cells, Sp.av, Sp.cells])) ?_
  cases h3 : satB v.wit s with
  | false =>
    simp -implicitDefEqProofs only [go_sem, hn3, not_false_eq_true]
    refine fnPost_ret tok ?_
    simp -implicitDefEqProofs only [go_sem, Tryz.results67, c, decide_true, madeB, h1, d2, h3, Bool.false_and, Bool.and_false]
  | true =>
  simp -implicitDefEqProofs only [go_sem, hn3, not_false_eq_true]
  refine opK_pure (JudgeS_ok v.wit t hV ht) rfl (Sub.of_eq (by first | rfl | simp -implicitDefEqProofs only [go_sem, Sy.av, Sy.cells, Sp.av, Sp.cells])) ?_
  simp -implicitDefEqProofs only [go_sem]
  refine fnPost_ret tok ?_
  simp -implicitDefEqProofs only [go_sem, Tryz.results67, c, decide_true, madeB, h1, d2, h3, Bool.true_and]
set_option maxHeartbeats 1000000 in
theorem RightS_ok (s t : Sp) (hs : s.Small) (ht : t.Small) (hf : s.Fit) (hg : t.Fit) (v : Vd) (hv : v.Small) : Fp Tryz.prog 31 [s.av, t.av, v.av] (.tup [abool (decide (fineS s t = 0) && rightV s t s.acts.length v), iA (fineS s t)]) := by
  refine Fp.of_vc tok Tryz.func31 rfl (by decide) ?_
  simp -implicitDefEqProofs only [go_sem, Tryz.ntmps31, Sp.av, Sp.cells, Vd.av, Vd.cells]
  refine newK_intro fun n3 hn3 => ?_
  try simp -implicitDefEqProofs only [hset, frt] at hn3
  simp -implicitDefEqProofs only [go_sem]
  refine newK_intro fun n4 hn4 => ?_
  try simp -implicitDefEqProofs only [hset, frt] at hn4
  simp -implicitDefEqProofs only [go_sem, hn4]
  refine newK_intro fun n5 hn5 => ?_
  try simp -implicitDefEqProofs only [hset, frt] at hn5
  simp -implicitDefEqProofs only [go_sem, hn4, hn5, not_false_eq_true]
  refine opK_pure (FineS_ok s t hs ht hf hg) rfl (Sub.of_eq (by first | rfl | simp -implicitDefEqProofs only [go_sem])) ?_
  simp -implicitDefEqProofs only [go_sem, iA]
  by_cases c0 : fineS s t = 0
  rotate_left
  · simp -implicitDefEqProofs only [go_sem, c0, decide_false, hn4, hn5, not_false_eq_true]
    refine fnPost_ret tok ?_
    simp -implicitDefEqProofs only [go_sem, Tryz.results31, c0, decide_false, Bool.false_and, iA]
  have C := fineS_cmp c0
  simp -implicitDefEqProofs only [go_sem, c0, decide_true, hn4, hn5, not_false_eq_true]
  refine newK_intro fun n9 hn9 => ?_
  try simp -implicitDefEqProofs only [hset, frt] at hn9
  simp -implicitDefEqProofs only [go_sem, hn4, hn5, not_false_eq_true, hn9]
  refine newK_intro fun n10 hn10 => ?_
  try simp -implicitDefEqProofs only [hset, frt] at hn10
  simp -implicitDefEqProofs only [go_sem, hn4, hn5, not_false_eq_true, hn9, hn10]
  cases h : v.holds with
  | true =>
    simp -implicitDefEqProofs only [go_sem, hn4, hn5, not_false_eq_true, hn9, hn10]
    refine opK_pureB (holds_ok s t C.m C.n v hv) rfl (Sub.of_eq (by simp -implicitDefEqProofs only [go_sem, jdA, h])) ?_
    simp -implicitDefEqProofs only [go_sem]
    refine fnPost_ret tok ?_
    simp -implicitDefEqProofs only [go_sem, Tryz.results31, c0, decide_true, Bool.true_and, iA, rightV, h, if_true]
  | false =>
    simp -implicitDefEqProofs only [go_sem, hn4, hn5, not_false_eq_true, hn9, hn10]
    refine opK_pureB (fails_ok s t C.m C.n v hv) rfl (Sub.of_eq (by simp -implicitDefEqProofs only [go_sem, jdA, h])) ?_
    simp -implicitDefEqProofs only [go_sem]
    refine fnPost_ret tok ?_
    simp -implicitDefEqProofs only [go_sem, Tryz.results31, c0, decide_true, Bool.true_and, iA, rightV, h, Bool.false_eq_true, if_false]
open Go Go.NS
end Go.Proofs.YtfininfcljdkbaaGreat
