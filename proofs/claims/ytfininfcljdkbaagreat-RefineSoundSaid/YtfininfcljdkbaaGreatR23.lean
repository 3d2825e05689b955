/- Systems, part Un: sizes and copies of systems; shapes; right verdicts, by the program. -/
import Derived.Test.YtfininfcljdkbaaGreatR22
import Derived.Test.YtfininfcljdkbaaGreatR17
set_option linter.unusedSimpArgs false
set_option linter.unusedVariables false
namespace Go.Proofs.YtfininfcljdkbaaGreat
open Go Go.NS
def Sy.parts (f : Sy) (i : Nat) : Nat := f.acts.length + f.sts.length + ((f.sts.map List.length).take i).sum
theorem Sy.parts_succ (f : Sy) {i : Nat} (h : i < f.sts.length) : f.parts (i + 1) = f.parts i + (f.sts[i]).length := by
  unfold Sy.parts
  rw [List.take_add_one, List.getElem?_map, List.getElem?_eq_getElem h]
  simp [List.sum_append, Nat.add_assoc]
theorem Sy.parts_mono (f : Sy) {i : Nat} (h : i ≤ f.sts.length) : f.parts i ≤ f.parts f.sts.length := by
  obtain ⟨k, hk⟩ : ∃ k, f.sts.length = i + k := ⟨f.sts.length - i, by omega⟩
  have : ∀ k, i + k ≤ f.sts.length → f.parts i ≤ f.parts (i + k) := fun k => by
    induction k with
    | zero => intro _; exact Nat.le_refl _
    | succ k ih => intro h; rw [← Nat.add_assoc, Sy.parts_succ f (by omega)]; have := ih (by omega); omega
  rw [hk]; exact this k (by omega)
def Sy.fewB (f : Sy) (m : Nat) : Bool := decide (f.parts f.sts.length ≤ m)
theorem FewSy_ok (f : Sy) (hf : f.Small) (m : Nat) (hm : m ≤ 1000000) : Fp Tryz.prog 19 [f.av, iA m] (abool (f.fewB m)) := by
  have hf1 := hf.a
  have hf2 := hf.n
  refine Fp.of_vc tok Tryz.func19 rfl (by decide) ?_
  simp -implicitDefEqProofs only [go_sem, Tryz.ntmps19, Sy.av, Sy.cells, iA]
  refine newK_intro fun n1 hn1 => ?_
  try simp -implicitDefEqProofs only [hset, List.map_append, List.map_cons, List.map_nil, List.cons_append, List.nil_append, List.mem_cons, List.mem_append, List.not_mem_nil, or_false, not_or] at hn1
  have hw0 : IntKind.i64.wrap ((f.acts.length : Int) + (f.sts.length : Int)) = (f.parts 0 : Nat) := by
    rw [IntWalk.i64_in _ (by omega)]; unfold Sy.parts; simp
  simp -implicitDefEqProofs only [go_sem, strsA, List.length_map, Nat.div_one, hw0]
  refine AW.loopG tok (fun i : Nat => slots 37 [(1, iA m), (2, .ptr n1 0), (4, abool false), (5, iA (f.parts i)), (6, iA i)]) (fun _ => [(n1, .cells 45 [.imm 1 (f.acts.map sA), .imm 1 (f.sts.map pairsA)])]) (fun i => i ≤ f.sts.length ∧ f.parts i ≤ m + 281474976710656) (fun i => f.sts.length - i) 0 ⟨by omega, by unfold Sy.parts; simp; omega⟩ (by simp -implicitDefEqProofs only [go_sem, iA]) (List.Sublist.refl _) ?_
  rintro i ⟨hi, hp⟩
  simp -implicitDefEqProofs only [go_sem, iA, List.length_map, Nat.div_one]
  by_cases hlt : i < f.sts.length
  · simp -implicitDefEqProofs only [go_sem, dlt_true hlt]
    by_cases hle : f.parts i ≤ m
    · have e1 : decide ((f.parts i : Int) ≤ (m : Int)) = true := by simp; omega
      have g1 : (f.sts.map pairsA)[i]? = some (pairsA f.sts[i]) := by simp [hlt]
      have e3 := hf.r f.sts[i] (List.getElem_mem hlt)
      have hw : IntKind.i64.wrap ((f.parts i : Int) + ((f.sts[i]).length : Int)) = (f.parts (i + 1) : Nat) := by
        rw [Sy.parts_succ f hlt, IntWalk.i64_in _ (by omega)]; omega
      simp -implicitDefEqProofs only [go_sem, e1, hlt, g1, pairsA, pc_div, List.length_map, Nat.div_one, hw, wrap_up hlt (by omega)]
      refine ⟨i + 1, ⟨by omega, by rw [Sy.parts_succ f hlt]; omega⟩, by omega, by simp -implicitDefEqProofs only [go_sem], List.Sublist.refl _⟩
    · have e1 : decide ((f.parts i : Int) ≤ (m : Int)) = false := by simp; omega
      have e : f.fewB m = false := by have := Sy.parts_mono f hi; simp [Sy.fewB]; omega
      simp -implicitDefEqProofs only [go_sem, e1]
      refine fnPost_ret tok ?_
      simp -implicitDefEqProofs only [go_sem, Tryz.results19, e]
  · have e : i = f.sts.length := by omega
    subst e
    simp -implicitDefEqProofs only [go_sem, dlt_false hlt]
    refine fnPost_ret tok ?_
    simp -implicitDefEqProofs only [go_sem, Tryz.results19, Sy.fewB]
    simp
theorem CopySy_ok (s : Sy) (hs : s.Small) : Fp Tryz.prog 23 [s.av] s.av := by
  have h1 := hs.a
  have h2 := hs.n
  refine Fp.of_vc tok Tryz.func23 rfl (by decide) ?_
  simp -implicitDefEqProofs only [go_sem, Tryz.ntmps23, Sy.av, Sy.cells, strsA]
  refine newK_intro fun n1 hn1 => ?_
  try simp -implicitDefEqProofs only [hset, List.map_append, List.map_cons, List.map_nil, List.cons_append, List.nil_append, List.mem_cons, List.mem_append, List.not_mem_nil, or_false, not_or] at hn1
  simp -implicitDefEqProofs only [go_sem]
  refine newK_intro fun n2 hn2 => ?_
  try simp -implicitDefEqProofs only [hset, List.map_append, List.map_cons, List.map_nil, List.cons_append, List.nil_append, List.mem_cons, List.mem_append, List.not_mem_nil, or_false, not_or] at hn2
  simp -implicitDefEqProofs only [go_sem, hn2]
  refine opK_appendImm tok rfl rfl T22 rfl T9 (by decide) rfl (by decide) (by simp only [List.length_map, Nat.div_one]; omega) ?_
  simp -implicitDefEqProofs only [go_sem, hn2]
  refine newK_intro fun n3 hn3 => ?_
  try simp -implicitDefEqProofs only [hset, List.map_append, List.map_cons, List.map_nil, List.cons_append, List.nil_append, List.mem_cons, List.mem_append, List.not_mem_nil, or_false, not_or] at hn3
  simp -implicitDefEqProofs only [go_sem, hn2, hn3]
  refine AW.adoptIn (sz := 1) (u := 45) (xs := [strsA s.acts, .raw (.slice none 0 0)]) n3 1 98 (by decide) (by simp -implicitDefEqProofs only [go_sem, hn3, strsA]) rfl fun n4 hn4 => ?_
  try simp -implicitDefEqProofs only [hset, List.map_append, List.map_cons, List.map_nil, List.cons_append, List.nil_append, List.mem_cons, List.mem_append, List.not_mem_nil, or_false, not_or] at hn4
  simp -implicitDefEqProofs only [go_sem, hn2, hn3, hn4, List.length_map, Nat.div_one]
  refine AW.loopG tok (fun p : Nat × Nat => slots 26 [(2, .ptr n2 0), (3, .ptr n3 0), (11, .imm 1 (s.sts.map pairsA)), (12, iA s.sts.length), (13, iA p.1)])
    (fun p => [(n2, .cells 45 [.raw (.slice none 0 0), .raw (.slice none 0 0)]), (n3, .cells 45 [strsA s.acts, .own n4 p.2]), (n4, .row 98 1 p.2 ((s.sts.take p.1).map pairsA))])
    (fun p => p.1 ≤ s.sts.length) (fun p => s.sts.length - p.1) (0, 0) (Nat.zero_le _) (by simp -implicitDefEqProofs only [go_sem, iA]) (List.sublist_cons_self _ _) ?_
  rintro ⟨i, ver⟩ hi
  simp only at hi
  simp -implicitDefEqProofs only [go_sem, iA]
  by_cases hlt : i < s.sts.length
  · have g1 : (s.sts.map pairsA)[i]? = some (pairsA s.sts[i]) := by simp [hlt]
    have p1 := hs.r s.sts[i] (List.getElem_mem hlt)
    simp -implicitDefEqProofs only [go_sem, dlt_true hlt, hlt, g1, List.length_map, Nat.div_one]
    refine AW.draw tok hmix ⟨[22], [], [], false⟩ (by kernel_rfl) (Has.of_sub (List.nil_sublist _)) ?_
    simp -implicitDefEqProofs only [go_sem, hn2, hn3, hn4, pairsA]
    refine opK_appendImm tok rfl rfl T98 rfl T101 (by decide) rfl (by decide) (by simp only [pc_div]; omega) ?_
    simp -implicitDefEqProofs only [go_sem, hn2, hn3, hn4]
    refine opK_lit tok T43 rfl T98 (by decide) (by simp -implicitDefEqProofs only [go_sem, zrep, List.flatten_cons, List.flatten_nil]; rfl) ?_
    simp -implicitDefEqProofs only [go_sem, hn2, hn3, hn4]
    refine opK_append tok rfl rfl (by simp -implicitDefEqProofs only [go_sem, hn2, hn3, hn4]; rfl) rfl T43 rfl T98 rfl (by decide) (by simp only [List.length_map, List.length_take, List.length_cons, List.length_nil, Nat.div_one]; omega) fun ver' => ?_
    have e6 : (s.sts.take i).map pairsA ++ [.imm 2 (pc s.sts[i])] = (s.sts.take (i + 1)).map pairsA := by
      rw [List.take_succ_eq_append_getElem hlt, List.map_append]; rfl
    simp -implicitDefEqProofs only [go_sem, hn2, hn3, hn4, e6, wrap_up hlt (by omega)]
    exact ⟨(i + 1, ver'), hlt, by simp only; omega, by simp -implicitDefEqProofs only [go_sem], by simp -implicitDefEqProofs only [go_sem, iA, strsA]; exact List.Sublist.refl _⟩
  · have e2 : s.sts.take i = s.sts := List.take_of_length_le (by omega)
    simp -implicitDefEqProofs only [go_sem, dlt_false hlt, hn2, hn3, hn4, e2]
    refine fnPost_freeze (xs := s.sts.map pairsA) n4 (by simp -implicitDefEqProofs only [go_sem, hn2, hn3, hn4]; rfl) ?_
    simp -implicitDefEqProofs only [go_sem, hn2, hn3, hn4]
    refine fnPost_ret tok ?_
    simp -implicitDefEqProofs only [go_sem, Tryz.results23, strsA, hn2, hn3, hn4]
end Go.Proofs.YtfininfcljdkbaaGreat
/- Refinement, part Uo: right verdicts, by the program; the law RefineRight. -/
namespace Go.Proofs.YtfininfcljdkbaaGreat
open Go Go.NS
def jdA (s t : Sp) (v : Vd) : AV := .agg [strsA s.acts, .imm 2 (stC s.sts), strsA t.acts, .imm 2 (stC t.sts), abool v.holds, intsA v.lad, pairsA v.pairs, strsA v.wit.acts, .imm 1 (v.wit.sts.map pairsA)]
theorem none_dec (w : Sy) : decide (((w.acts.length + w.sts.length : Nat) : Int) = 0) = w.noneB := by
  unfold Sy.noneB
  rw [← Bool.decide_and, decide_eq_decide]
  omega
theorem holds_ok (s t : Sp) {k : Nat} (hs : s.Val k) (ht : t.Val k) (v : Vd) (hv : v.Small) : Fp Tryz.prog 68 [jdA s t v] (abool (v.wit.noneB && proofB s t k v.lad v.pairs)) := by
  have hl := hv.l
  have hp := hv.p
  have h1 := hv.w.a
  have h2 := hv.w.n
  have hw : IntKind.i64.wrap ((v.wit.acts.length : Int) + (v.wit.sts.length : Int)) = ((v.wit.acts.length + v.wit.sts.length : Nat) : Int) := by rw [← Int.natCast_add]; exact wrap_nat (by omega)
  refine Fp.of_vc tok Tryz.func68 rfl (by decide) ?_
  simp -implicitDefEqProofs only [go_sem, Tryz.ntmps68, jdA]
  refine newK_intro fun n1 hn1 => ?_
  try simp -implicitDefEqProofs only [hset, List.map_append, List.map_cons, List.map_nil, List.cons_append, List.nil_append, List.mem_cons, List.mem_append, List.not_mem_nil, or_false, not_or] at hn1
  simp -implicitDefEqProofs only [go_sem, strsA, List.length_map, Nat.div_one, hw, none_dec]
  cases c : v.wit.noneB with
  | false =>
    simp -implicitDefEqProofs only [go_sem]
    refine fnPost_ret tok ?_
    simp -implicitDefEqProofs only [go_sem, Tryz.results68, Bool.false_and]
  | true =>
    simp -implicitDefEqProofs only [go_sem]
    refine opK_pure (proves_ok s t hs ht v.lad hl v.pairs hp) rfl (Sub.of_eq (by first | rfl | simp -implicitDefEqProofs only [go_sem, Sp.av, Sp.cells, strsA])) ?_
    simp -implicitDefEqProofs only [go_sem]
    refine fnPost_ret tok ?_
    simp -implicitDefEqProofs only [go_sem, Tryz.results68, Bool.true_and]
set_option maxHeartbeats 1000000 in
theorem fails_ok (s t : Sp) {k : Nat} (hs : s.Val k) (ht : t.Val k) (v : Vd) (hv : v.Small) : Fp Tryz.prog 67 [jdA s t v] (abool (decide (v.lad.length + v.pairs.length = 0) && (madeB v.wit s && !satB v.wit t))) := by
  have hl := hv.l
  have hp := hv.p
  have hw : IntKind.i64.wrap ((v.lad.length : Int) + (v.pairs.length : Int)) = ((v.lad.length + v.pairs.length : Nat) : Int) := by rw [← Int.natCast_add]; exact wrap_nat (by omega)
  have d : decide (((v.lad.length + v.pairs.length : Nat) : Int) = 0) = decide (v.lad.length + v.pairs.length = 0) := decide_eq_decide.2 (by omega)
  refine Fp.of_vc tok Tryz.func67 rfl (by decide) ?_
  simp -implicitDefEqProofs only [go_sem, Tryz.ntmps67, jdA]
  refine newK_intro fun n1 hn1 => ?_
  try simp -implicitDefEqProofs only [hset, List.map_append, List.map_cons, List.map_nil, List.cons_append, List.nil_append, List.mem_cons, List.mem_append, List.not_mem_nil, or_false, not_or] at hn1
  simp -implicitDefEqProofs only [go_sem]
  refine newK_intro fun n3 hn3 => ?_
  try simp -implicitDefEqProofs only [hset, List.map_append, List.map_cons, List.map_nil, List.cons_append, List.nil_append, List.mem_cons, List.mem_append, List.not_mem_nil, or_false, not_or] at hn3
  simp -implicitDefEqProofs only [go_sem, hn3, not_false_eq_true, intsA, pairsA, List.length_map, Nat.div_one, pc_div, hw, d]
  by_cases c : v.lad.length + v.pairs.length = 0
  rotate_left
  · simp -implicitDefEqProofs only [go_sem, c, decide_false, hn3, not_false_eq_true]
    refine fnPost_ret tok ?_
    simp -implicitDefEqProofs only [go_sem, Tryz.results67, c, decide_false, Bool.false_and]
  simp -implicitDefEqProofs only [go_sem, c, decide_true, hn3, not_false_eq_true]
  refine opK_pure (ValidSy_ok v.wit hv.w) rfl (Sub.of_eq (by first | rfl | simp -implicitDefEqProofs only [go_sem, Sy.av, Sy.cells])) ?_
  cases h1 : v.wit.validB with
  | false =>
    simp -implicitDefEqProofs only [go_sem, hn3, not_false_eq_true]
    refine fnPost_ret tok ?_
    simp -implicitDefEqProofs only [go_sem, Tryz.results67, c, decide_true, madeB, h1, Bool.false_and, Bool.and_false]
  | true =>
  simp -implicitDefEqProofs only [go_sem, hn3, not_false_eq_true]
  refine opK_pure (Equal_ok v.wit.acts s.acts hv.w.a hs.small.a) rfl (Sub.of_eq (by first | rfl | simp -implicitDefEqProofs only [go_sem])) ?_
  by_cases h2 : v.wit.acts = s.acts
  rotate_left
  · simp -implicitDefEqProofs only [go_sem, h2, decide_false, hn3, not_false_eq_true]
    refine fnPost_ret tok ?_
    simp -implicitDefEqProofs only [go_sem, Tryz.results67, c, decide_true, madeB, h1, h2, decide_false, Bool.false_and, Bool.and_false]
  have hV : v.wit.Val k := by
    have := Sy.validB_val h1
    rwa [show v.wit.acts.length = k by rw [h2]; exact hs.len] at this
  have d2 : decide (v.wit.acts = s.acts) = true := decide_eq_true h2
  simp -implicitDefEqProofs only [go_sem, d2, hn3, not_false_eq_true]
  refine opK_pure (JudgeS_ok v.wit s hV hs) rfl (Sub.of_eq (by first | rfl | simp -implicitDefEqProofs only [go_sem, Sy.av, Sy.cells, Sp.av, Sp.cells])) ?_
  cases h3 : satB v.wit s with
  | false =>
    simp -implicitDefEqProofs only [go_sem, hn3, not_false_eq_true]
    refine fnPost_ret tok ?_
    simp -implicitDefEqProofs only [go_sem, Tryz.results67, c, decide_true, madeB, h1, d2, h3, Bool.false_and, Bool.and_false]
  | true =>
  simp -implicitDefEqProofs only [go_sem, hn3, not_false_eq_true]
  refine opK_pure (JudgeS_ok v.wit t hV ht) rfl (Sub.of_eq (by first | rfl | simp -implicitDefEqProofs only [go_sem, Sy.av, Sy.cells, Sp.av, Sp.cells])) ?_
  simp -implicitDefEqProofs only [go_sem]
  refine fnPost_ret tok ?_
  simp -implicitDefEqProofs only [go_sem, Tryz.results67, c, decide_true, madeB, h1, d2, h3, Bool.true_and]
set_option maxHeartbeats 1000000 in
theorem RightS_ok (s t : Sp) (hs : s.Small) (ht : t.Small) (hf : s.Fit) (hg : t.Fit) (v : Vd) (hv : v.Small) : Fp Tryz.prog 31 [s.av, t.av, v.av] (.tup [abool (decide (fineS s t = 0) && rightV s t s.acts.length v), iA (fineS s t)]) := by
  refine Fp.of_vc tok Tryz.func31 rfl (by decide) ?_
  simp -implicitDefEqProofs only [go_sem, Tryz.ntmps31, Sp.av, Sp.cells, Vd.av, Vd.cells]
  refine newK_intro fun n3 hn3 => ?_
  try simp -implicitDefEqProofs only [hset, List.map_append, List.map_cons, List.map_nil, List.cons_append, List.nil_append, List.mem_cons, List.mem_append, List.not_mem_nil, or_false, not_or] at hn3
  simp -implicitDefEqProofs only [go_sem]
  refine newK_intro fun n4 hn4 => ?_
  try simp -implicitDefEqProofs only [hset, List.map_append, List.map_cons, List.map_nil, List.cons_append, List.nil_append, List.mem_cons, List.mem_append, List.not_mem_nil, or_false, not_or] at hn4
  simp -implicitDefEqProofs only [go_sem, hn4]
  refine newK_intro fun n5 hn5 => ?_
  try simp -implicitDefEqProofs only [hset, List.map_append, List.map_cons, List.map_nil, List.cons_append, List.nil_append, List.mem_cons, List.mem_append, List.not_mem_nil, or_false, not_or] at hn5
  simp -implicitDefEqProofs only [go_sem, hn4, hn5, not_false_eq_true]
  refine opK_pure (FineS_ok s t hs ht hf hg) rfl (Sub.of_eq (by first | rfl | simp -implicitDefEqProofs only [go_sem])) ?_
  simp -implicitDefEqProofs only [go_sem, iA]
  by_cases c0 : fineS s t = 0
  rotate_left
  · simp -implicitDefEqProofs only [go_sem, c0, decide_false, hn4, hn5, not_false_eq_true]
    refine fnPost_ret tok ?_
    simp -implicitDefEqProofs only [go_sem, Tryz.results31, c0, decide_false, Bool.false_and, iA]
  have C := fineS_cmp c0
  simp -implicitDefEqProofs only [go_sem, c0, decide_true, hn4, hn5, not_false_eq_true]
  refine newK_intro fun n9 hn9 => ?_
  try simp -implicitDefEqProofs only [hset, List.map_append, List.map_cons, List.map_nil, List.cons_append, List.nil_append, List.mem_cons, List.mem_append, List.not_mem_nil, or_false, not_or] at hn9
  simp -implicitDefEqProofs only [go_sem, hn4, hn5, not_false_eq_true, hn9]
  refine newK_intro fun n10 hn10 => ?_
  try simp -implicitDefEqProofs only [hset, List.map_append, List.map_cons, List.map_nil, List.cons_append, List.nil_append, List.mem_cons, List.mem_append, List.not_mem_nil, or_false, not_or] at hn10
  simp -implicitDefEqProofs only [go_sem, hn4, hn5, not_false_eq_true, hn9, hn10]
  cases h : v.holds with
  | true =>
    simp -implicitDefEqProofs only [go_sem, hn4, hn5, not_false_eq_true, hn9, hn10]
    refine opK_pureB (holds_ok s t C.m C.n v hv) rfl (Sub.of_eq (by simp -implicitDefEqProofs only [go_sem, jdA, h])) ?_
    simp -implicitDefEqProofs only [go_sem]
    refine fnPost_ret tok ?_
    simp -implicitDefEqProofs only [go_sem, Tryz.results31, c0, decide_true, Bool.true_and, iA, rightV, h, if_true]
  | false =>
    simp -implicitDefEqProofs only [go_sem, hn4, hn5, not_false_eq_true, hn9, hn10]
    refine opK_pureB (fails_ok s t C.m C.n v hv) rfl (Sub.of_eq (by simp -implicitDefEqProofs only [go_sem, jdA, h])) ?_
    simp -implicitDefEqProofs only [go_sem]
    refine fnPost_ret tok ?_
    simp -implicitDefEqProofs only [go_sem, Tryz.results31, c0, decide_true, Bool.true_and, iA, rightV, h, Bool.false_eq_true, if_false]
theorem sh_edge {xs : List AV} (h : Sh TT0 101 xs) : ∃ p : Int × Int, xs = [iA p.1, iA p.2] := by
  obtain ⟨ys, hl, hy, rfl⟩ := h.struct_inv T101 rfl
  match ys, hl, hy with
  | [y0, y1], _, hy =>
    obtain ⟨n, _, _, e0⟩ := (hy 0 (by simp)).int_inv T3 rfl
    obtain ⟨m, _, _, e1⟩ := (hy 1 (by simp)).int_inv T3 rfl
    simp only [List.getElem_cons_succ, List.getElem_cons_zero] at e0 e1
    subst e0 e1
    exact ⟨(n, m), rfl⟩
theorem sh_edges {xs : List AV} (h : Sh TT0 98 xs) : ∃ l : List (Int × Int), l.length * 16 ≤ 140737488351232 ∧ xs = [pairsA l] := by
  obtain ⟨ys, hy, hb, rfl⟩ := h.slice_inv T98 rfl T101
  obtain ⟨l, h1, h2⟩ := pairs_flat ys fun y hy' => sh_edge (hy y hy').1
  exact ⟨l, by rw [h1]; exact hb, by rw [h2]; rfl⟩
theorem sh_sy {xs : List AV} (h : Sh TT0 45 xs) : ∃ m : Sy, m.Small ∧ xs = m.cells := by
  obtain ⟨ys, hl, hy, rfl⟩ := h.struct_inv T45 rfl
  match ys, hl, hy with
  | [y0, y1], _, hy =>
    obtain ⟨l, h1, e0⟩ := sh_strs (hy 0 (by simp))
    obtain ⟨zs, hz, hb, e1⟩ := (hy 1 (by simp)).slice_inv T43 rfl T98
    obtain ⟨r, h2, h3, h4⟩ := rows_map (f := pairsA) (p := fun x => x.length * 16 ≤ 140737488351232) zs fun z hz' => sh_edges (hz z hz').1
    simp only [List.getElem_cons_succ, List.getElem_cons_zero] at e0 e1
    subst e0 e1
    refine ⟨⟨l, r⟩, ⟨h1, by rw [h2]; exact hb, h3⟩, ?_⟩
    rw [h4]; rfl
theorem shA_sy {a : AV} (h : ShA TT0 45 a) : ∃ m : Sy, m.Small ∧ a = m.av := by
  obtain ⟨xs, hs, rfl⟩ := h.agg T45 rfl
  obtain ⟨m, hm, rfl⟩ := sh_sy hs
  exact ⟨m, hm, rfl⟩
end Go.Proofs.YtfininfcljdkbaaGreat
/- The law RefineRight. -/
namespace Go.Proofs.YtfininfcljdkbaaGreat
open Go Go.NS
end Go.Proofs.YtfininfcljdkbaaGreat
