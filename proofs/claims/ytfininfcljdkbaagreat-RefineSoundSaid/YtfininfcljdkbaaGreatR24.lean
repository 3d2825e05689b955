/- The law RefineSound. -/
import Derived.Test.YtfininfcljdkbaaGreatR23
set_option linter.unusedSimpArgs false
set_option linter.unusedVariables false
namespace Go.Proofs.YtfininfcljdkbaaGreat
open Go Go.NS
def fineY (m : Sy) (s : Sp) : Int := if m.validB then (if s.validB then (if m.acts = s.acts then 0 else 10) else 30) else 20
theorem fineY_zero {m : Sy} {s : Sp} (h : fineY m s = 0) : m.Val m.acts.length ∧ s.Val m.acts.length ∧ m.acts = s.acts := by
  unfold fineY at h
  cases h1 : m.validB with
  | false => rw [h1] at h; simp at h
  | true =>
    cases h2 : s.validB with
    | false => rw [h1, h2] at h; simp at h
    | true =>
      rw [h1, h2] at h
      by_cases e : m.acts = s.acts
      · exact ⟨Sy.validB_val h1, by rw [e]; exact Sp.validB_val h2, e⟩
      · simp [e] at h
theorem fineY_of {m : Sy} {s : Sp} {k : Nat} (h1 : m.validB = true) (h2 : s.Val k) (e : m.acts = s.acts) : fineY m s = 0 := by
  unfold fineY
  rw [h1, val_valid h2]
  simp [e]
theorem FineY_ok (m : Sy) (s : Sp) (hm : m.Small) (hs : s.Small) (hf : s.Fit) : Fp Tryz.prog 56 [m.av, s.av] (iA (fineY m s)) := by
  refine Fp.of_vc tok Tryz.func56 rfl (by decide) ?_
  simp -implicitDefEqProofs only [go_sem, Tryz.ntmps56, Sy.av, Sy.cells, Sp.av, Sp.cells]
  refine newK_intro fun n2 hn2 => ?_
  try simp -implicitDefEqProofs only [hset, List.map_append, List.map_cons, List.map_nil, List.cons_append, List.nil_append, List.mem_cons, List.mem_append, List.not_mem_nil, or_false, not_or] at hn2
  simp -implicitDefEqProofs only [go_sem]
  refine newK_intro fun n3 hn3 => ?_
  try simp -implicitDefEqProofs only [hset, List.map_append, List.map_cons, List.map_nil, List.cons_append, List.nil_append, List.mem_cons, List.mem_append, List.not_mem_nil, or_false, not_or] at hn3
  simp -implicitDefEqProofs only [go_sem, hn3]
  refine opK_pure (ValidSy_ok m hm) rfl (Sub.of_eq (by first | rfl | simp -implicitDefEqProofs only [go_sem])) ?_
  cases c1 : m.validB with
  | false =>
    have e : fineY m s = 20 := by simp [fineY, c1]
    simp -implicitDefEqProofs only [go_sem]
    refine fnPost_ret tok ?_
    simp -implicitDefEqProofs only [go_sem, Tryz.results56, e, iA]
  | true =>
    simp -implicitDefEqProofs only [go_sem, hn3]
    refine opK_pure (ValidS_ok s hs hf) rfl (Sub.of_eq (by first | rfl | simp -implicitDefEqProofs only [go_sem])) ?_
    cases c2 : s.validB with
    | false =>
      have e : fineY m s = 30 := by simp [fineY, c1, c2]
      simp -implicitDefEqProofs only [go_sem]
      refine fnPost_ret tok ?_
      simp -implicitDefEqProofs only [go_sem, Tryz.results56, e, iA]
    | true =>
      simp -implicitDefEqProofs only [go_sem, hn3]
      refine opK_pure (Equal_ok m.acts s.acts hm.a hs.a) rfl (Sub.of_eq (by first | rfl | simp -implicitDefEqProofs only [go_sem])) ?_
      by_cases c3 : m.acts = s.acts
      · have e : fineY m s = 0 := by simp [fineY, c1, c2, c3]
        simp -implicitDefEqProofs only [go_sem, c3, decide_true]
        refine fnPost_ret tok ?_
        simp -implicitDefEqProofs only [go_sem, Tryz.results56, e, iA]
      · have e : fineY m s = 10 := by simp [fineY, c1, c2, c3]
        simp -implicitDefEqProofs only [go_sem, c3, decide_false]
        refine fnPost_ret tok ?_
        simp -implicitDefEqProofs only [go_sem, Tryz.results56, e, iA]
def satA (m : Sy) (s : Sp) : AV := .tup [.agg [abool (decide (fineY m s = 0) && satB m s), .junk, .junk, .junk], iA (fineY m s)]
theorem SatS_ok (m : Sy) (s : Sp) (hm : m.Small) (hs : s.Small) (hf : s.Fit) : Fp Tryz.prog 22 [m.av, s.av] (satA m s) := by
  refine Fp.of_vc tok Tryz.func22 rfl (by decide) ?_
  simp -implicitDefEqProofs only [go_sem, Tryz.ntmps22, Sy.av, Sy.cells, Sp.av, Sp.cells]
  refine newK_intro fun n2 hn2 => ?_
  try simp -implicitDefEqProofs only [hset, List.map_append, List.map_cons, List.map_nil, List.cons_append, List.nil_append, List.mem_cons, List.mem_append, List.not_mem_nil, or_false, not_or] at hn2
  simp -implicitDefEqProofs only [go_sem]
  refine newK_intro fun n3 hn3 => ?_
  try simp -implicitDefEqProofs only [hset, List.map_append, List.map_cons, List.map_nil, List.cons_append, List.nil_append, List.mem_cons, List.mem_append, List.not_mem_nil, or_false, not_or] at hn3
  simp -implicitDefEqProofs only [go_sem, hn3]
  refine newK_intro fun n4 hn4 => ?_
  try simp -implicitDefEqProofs only [hset, List.map_append, List.map_cons, List.map_nil, List.cons_append, List.nil_append, List.mem_cons, List.mem_append, List.not_mem_nil, or_false, not_or] at hn4
  simp -implicitDefEqProofs only [go_sem, hn3, hn4, not_false_eq_true]
  refine opK_pure (FineY_ok m s hm hs hf) rfl (Sub.of_eq (by first | rfl | simp -implicitDefEqProofs only [go_sem])) ?_
  simp -implicitDefEqProofs only [go_sem, iA]
  by_cases c0 : fineY m s = 0
  rotate_left
  · simp -implicitDefEqProofs only [go_sem, c0, decide_false, hn3, hn4, not_false_eq_true]
    refine fnPost_retLe tok ?_
    simp -implicitDefEqProofs only [go_sem, Tryz.results22, hn3, hn4, not_false_eq_true]
    refine ⟨_, ?_, by unfold satA; rw [decide_eq_false c0, Bool.false_and]⟩
    exact Le.tup (Les.cons (Le.agg (Les.cons (Le.refl _) (Les.cons (Le.junk _) (Les.cons (Le.junk _) (Les.cons (Le.junk _) Les.nil))))) (Les.cons (Le.refl _) Les.nil))
  obtain ⟨h1, h2, e⟩ := fineY_zero c0
  simp -implicitDefEqProofs only [go_sem, c0, decide_true, hn3, hn4, not_false_eq_true]
  refine opK_pure (JudgeS_ok m s h1 h2) rfl (Sub.of_eq (by first | rfl | simp -implicitDefEqProofs only [go_sem, Sy.av, Sy.cells, Sp.av, Sp.cells])) ?_
  simp -implicitDefEqProofs only [go_sem, hn3, hn4, not_false_eq_true]
  refine fnPost_ret tok ?_
  simp -implicitDefEqProofs only [go_sem, Tryz.results22, hn3, hn4, not_false_eq_true, satA, c0, decide_true, Bool.true_and, iA]
theorem shA_two {a : AV} (h : ShA TT0 82 a) : ∃ s t : Sp, s.Small ∧ s.Fit ∧ t.Small ∧ t.Fit ∧ a = .agg [strsA s.acts, .imm 2 (stC s.sts), strsA t.acts, .imm 2 (stC t.sts)] := by
  obtain ⟨xs, hs, rfl⟩ := h.agg T82 rfl
  obtain ⟨ys, hl, hy, rfl⟩ := hs.array_inv T82 rfl T25
  match ys, hl, hy with
  | [y0, y1], _, hy =>
    have h0 := (hy y0 (by simp)).1
    have h1 := (hy y1 (by simp)).1
    obtain ⟨s, s1, s2, e0⟩ := shA_sp (a := .agg y0) ⟨y0, h0, .inl ⟨_, T25, rfl, rfl⟩⟩
    obtain ⟨t, t1, t2, e1⟩ := shA_sp (a := .agg y1) ⟨y1, h1, .inl ⟨_, T25, rfl, rfl⟩⟩
    simp only [Sp.av, AV.agg.injEq] at e0 e1
    subst e0 e1
    exact ⟨s, t, s1, s2, t1, t2, rfl⟩
set_option maxRecDepth 4000 in
set_option maxHeartbeats 8000000 in
theorem RefineSound_ok (s t : Sp) (hs : s.Small) (ht : t.Small) (hf : s.Fit) (hg : t.Fit) (p : Pf) (hp : p.Small) (m : Sy) (hm : m.Small) :
    Fp Tryz.prog 8 [.agg [strsA s.acts, .imm 2 (stC s.sts), strsA t.acts, .imm 2 (stC t.sts)], p.av, m.av] (abool true) := by
  have hpl := hp.l
  have hpp := hp.p
  refine Fp.of_vc tok Tryz.func8 rfl (by decide) ?_
  simp -implicitDefEqProofs only [go_sem, Tryz.ntmps8, Sy.av, Sy.cells, Pf.av]
  refine newK_intro fun n3 hn3 => ?_
  try simp -implicitDefEqProofs only [hset, List.map_append, List.map_cons, List.map_nil, List.cons_append, List.nil_append, List.mem_cons, List.mem_append, List.not_mem_nil, or_false, not_or] at hn3
  simp -implicitDefEqProofs only [go_sem]
  refine newK_intro fun n4 hn4 => ?_
  try simp -implicitDefEqProofs only [hset, List.map_append, List.map_cons, List.map_nil, List.cons_append, List.nil_append, List.mem_cons, List.mem_append, List.not_mem_nil, or_false, not_or] at hn4
  simp -implicitDefEqProofs only [go_sem, hn4]
  refine newK_intro fun n5 hn5 => ?_
  try simp -implicitDefEqProofs only [hset, List.map_append, List.map_cons, List.map_nil, List.cons_append, List.nil_append, List.mem_cons, List.mem_append, List.not_mem_nil, or_false, not_or] at hn5
  simp -implicitDefEqProofs only [go_sem, hn4, hn5, not_false_eq_true]
  refine AW.drawF tok hmix [] [24, 25, 26] [(n3, .cells 82 [strsA s.acts, .imm 2 (stC s.sts), strsA t.acts, .imm 2 (stC t.sts)])] (by kernel_rfl) ?_ ?_
  · exact List.Sublist.cons_cons _ (List.nil_sublist _)
  simp -implicitDefEqProofs only [go_sem, hn4, hn5, not_false_eq_true]
  refine newK_intro fun n7 hn7 => ?_
  try simp -implicitDefEqProofs only [hset, List.map_append, List.map_cons, List.map_nil, List.cons_append, List.nil_append, List.mem_cons, List.mem_append, List.not_mem_nil, or_false, not_or] at hn7
  simp -implicitDefEqProofs only [go_sem, hn4, hn5, not_false_eq_true, hn7]
  refine newK_intro fun n8 hn8 => ?_
  try simp -implicitDefEqProofs only [hset, List.map_append, List.map_cons, List.map_nil, List.cons_append, List.nil_append, List.mem_cons, List.mem_append, List.not_mem_nil, or_false, not_or] at hn8
  simp -implicitDefEqProofs only [go_sem, hn4, hn5, not_false_eq_true, hn7, hn8]
  refine ⟨by (try rw [keepH_sub]); exact List.Sublist.cons_cons _ (List.nil_sublist _), by (try rw [keepH_sub]); exact List.Sublist.cons_cons _ (List.nil_sublist _), ?_⟩
  refine opK_pure (FewS_ok s hs 500 (by decide)) rfl (Sub.of_eq (by first | rfl | simp -implicitDefEqProofs only [go_sem, Sp.av, Sp.cells, iA])) ?_
  cases hL1 : s.fewB 500 with
  | false =>
    simp -implicitDefEqProofs only [go_sem, hn4, hn5, not_false_eq_true, hn7, hn8]
    refine opK_pure (awake5_ok) rfl (Sub.of_eq (by first | rfl | simp -implicitDefEqProofs only [go_sem])) ?_
    simp -implicitDefEqProofs only [go_sem, hn4, hn5, not_false_eq_true, hn7, hn8]
    refine fnPost_ret tok ?_
    simp -implicitDefEqProofs only [go_sem, Tryz.results8]
  | true =>
  simp -implicitDefEqProofs only [go_sem, hn4, hn5, not_false_eq_true, hn7, hn8]
  refine opK_pure (FewS_ok t ht 500 (by decide)) rfl (Sub.of_eq (by first | rfl | simp -implicitDefEqProofs only [go_sem, Sp.av, Sp.cells, iA])) ?_
  cases hL2 : t.fewB 500 with
  | false =>
    simp -implicitDefEqProofs only [go_sem, hn4, hn5, not_false_eq_true, hn7, hn8]
    refine opK_pure (awake5_ok) rfl (Sub.of_eq (by first | rfl | simp -implicitDefEqProofs only [go_sem])) ?_
    simp -implicitDefEqProofs only [go_sem, hn4, hn5, not_false_eq_true, hn7, hn8]
    refine fnPost_ret tok ?_
    simp -implicitDefEqProofs only [go_sem, Tryz.results8]
  | true =>
  simp -implicitDefEqProofs only [go_sem, hn4, hn5, not_false_eq_true, hn7, hn8]
  refine opK_pure (FewSy_ok m hm 500 (by decide)) rfl (Sub.of_eq (by first | rfl | simp -implicitDefEqProofs only [go_sem, Sy.av, Sy.cells, iA])) ?_
  cases hL5 : m.fewB 500 with
  | false =>
    simp -implicitDefEqProofs only [go_sem, hn4, hn5, not_false_eq_true, hn7, hn8]
    refine opK_pure (awake5_ok) rfl (Sub.of_eq (by first | rfl | simp -implicitDefEqProofs only [go_sem])) ?_
    simp -implicitDefEqProofs only [go_sem, hn4, hn5, not_false_eq_true, hn7, hn8]
    refine fnPost_ret tok ?_
    simp -implicitDefEqProofs only [go_sem, Tryz.results8]
  | true =>
  simp -implicitDefEqProofs only [go_sem, hn4, hn5, not_false_eq_true, hn7, hn8, intsA, List.length_map, Nat.div_one]
  by_cases hL3 : (p.lad.length : Int) > 500
  · simp -implicitDefEqProofs only [go_sem, hL3, decide_true]
    refine opK_pure (awake5_ok) rfl (Sub.of_eq (by first | rfl | simp -implicitDefEqProofs only [go_sem])) ?_
    simp -implicitDefEqProofs only [go_sem, hn4, hn5, not_false_eq_true, hn7, hn8]
    refine fnPost_ret tok ?_
    simp -implicitDefEqProofs only [go_sem, Tryz.results8]
  simp -implicitDefEqProofs only [go_sem, hL3, decide_false, hn4, hn5, not_false_eq_true, hn7, hn8, pairsA, pc_div]
  by_cases hL4 : (p.pairs.length : Int) > 500
  · simp -implicitDefEqProofs only [go_sem, hL4, decide_true]
    refine opK_pure (awake5_ok) rfl (Sub.of_eq (by first | rfl | simp -implicitDefEqProofs only [go_sem])) ?_
    simp -implicitDefEqProofs only [go_sem, hn4, hn5, not_false_eq_true, hn7, hn8]
    refine fnPost_ret tok ?_
    simp -implicitDefEqProofs only [go_sem, Tryz.results8]
  simp -implicitDefEqProofs only [go_sem, hL4, decide_false, hn4, hn5, not_false_eq_true, hn7, hn8]
  refine opK_pure (both5_ok s t hs ht) rfl (Sub.of_eq (by first | rfl | simp -implicitDefEqProofs only [go_sem, Sp.av, Sp.cells])) ?_
  simp -implicitDefEqProofs only [go_sem, hn4, hn5, not_false_eq_true, hn7, hn8, iA]
  by_cases c0 : fineS s t = 0
  rotate_left
  · simp -implicitDefEqProofs only [go_sem, c0, decide_false, hn4, hn5, not_false_eq_true, hn7, hn8]
    refine opK_pure (awake5_ok) rfl (Sub.of_eq (by first | rfl | simp -implicitDefEqProofs only [go_sem])) ?_
    simp -implicitDefEqProofs only [go_sem, hn4, hn5, not_false_eq_true, hn7, hn8]
    refine fnPost_ret tok ?_
    simp -implicitDefEqProofs only [go_sem, Tryz.results8]
  have C := fineS_cmp c0
  have hst : s.acts = t.acts := C.e
  simp -implicitDefEqProofs only [go_sem, c0, decide_true, hn4, hn5, not_false_eq_true, hn7, hn8]
  refine AW.draw tok hmix ⟨[], [], [], false⟩ (by kernel_rfl) (Has.of_sub (List.nil_sublist _)) ?_
  simp -implicitDefEqProofs only [go_sem, hn4, hn5, not_false_eq_true, hn7, hn8]
  refine opK_pure (CopyS_ok s hs) rfl (Sub.of_eq (by first | rfl | simp -implicitDefEqProofs only [go_sem])) ?_
  simp -implicitDefEqProofs only [go_sem, hn4, hn5, not_false_eq_true, hn7, hn8]
  refine opK_pure (CopyS_ok t ht) rfl (Sub.of_eq (by first | rfl | simp -implicitDefEqProofs only [go_sem])) ?_
  simp -implicitDefEqProofs only [go_sem, hn4, hn5, not_false_eq_true, hn7, hn8]
  refine opK_pure (twin_ok p hp) rfl (Sub.of_eq (by first | rfl | simp -implicitDefEqProofs only [go_sem, Pf.av, intsA, pairsA])) ?_
  simp -implicitDefEqProofs only [go_sem, hn4, hn5, not_false_eq_true, hn7, hn8]
  refine opK_pure (IsProofS_ok s t hs ht hf hg p hp) rfl (Sub.of_eq (by first | rfl | simp -implicitDefEqProofs only [go_sem])) ?_
  simp -implicitDefEqProofs only [go_sem, hn4, hn5, not_false_eq_true, hn7, hn8, iA, c0, decide_true, Bool.true_and]
  refine AW.drawPF tok hmix false [] [74] [0, 1, 2, 3, 4, 5, 6, 7, 8, 9, 10] ([]) (by kernel_rfl) ?_ ?_
  · exact List.nil_sublist _
  simp -implicitDefEqProofs only [go_sem, hn4, hn5, not_false_eq_true, hn7, hn8]
  refine opK_pure (CopyS_ok s hs) rfl (Sub.of_eq (by first | rfl | simp -implicitDefEqProofs only [go_sem])) ?_
  simp -implicitDefEqProofs only [go_sem, hn4, hn5, not_false_eq_true, hn7, hn8]
  refine opK_pure (CopyS_ok t ht) rfl (Sub.of_eq (by first | rfl | simp -implicitDefEqProofs only [go_sem])) ?_
  simp -implicitDefEqProofs only [go_sem, hn4, hn5, not_false_eq_true, hn7, hn8]
  refine opK_callNew rfl (RefinesV_fc s t hs ht hf hg) rfl (Sub.of_eq (by first | rfl | simp -implicitDefEqProofs only [go_sem, Sp.av, Sp.cells])) (refV_plenty s t) ?_
  rintro x H1 ⟨rfl, v, hv, rfl, hr, -⟩ hnd
  obtain ⟨hh, hR⟩ := hr c0
  simp -implicitDefEqProofs only [go_sem, hn4, hn5, not_false_eq_true, hn7, hn8, Vd.av, Vd.cells, iA, c0]
  refine newK_intro fun n11 hn11 => ?_
  try simp -implicitDefEqProofs only [hset, List.map_append, List.map_cons, List.map_nil, List.cons_append, List.nil_append, List.mem_cons, List.mem_append, List.not_mem_nil, or_false, not_or] at hn11
  simp -implicitDefEqProofs only [go_sem, hn4, hn5, not_false_eq_true, hn7, hn8, hn11]
  refine AW.draw tok hmix ⟨[], [], [], false⟩ (by kernel_rfl) (Has.of_sub (List.nil_sublist _)) ?_
  simp -implicitDefEqProofs only [go_sem, hn4, hn5, not_false_eq_true, hn7, hn8, hn11]
  refine opK_pure (CopyS_ok s hs) rfl (Sub.of_eq (by first | rfl | simp -implicitDefEqProofs only [go_sem])) ?_
  simp -implicitDefEqProofs only [go_sem, hn4, hn5, not_false_eq_true, hn7, hn8, hn11]
  refine opK_pure (CopyS_ok t ht) rfl (Sub.of_eq (by first | rfl | simp -implicitDefEqProofs only [go_sem])) ?_
  simp -implicitDefEqProofs only [go_sem, hn4, hn5, not_false_eq_true, hn7, hn8, hn11]
  refine opK_pure (twin_ok ⟨v.lad, v.pairs⟩ ⟨hv.l, hv.p⟩) rfl (Sub.of_eq (by first | rfl | simp -implicitDefEqProofs only [go_sem, Pf.av])) ?_
  simp -implicitDefEqProofs only [go_sem, hn4, hn5, not_false_eq_true, hn7, hn8, hn11, Pf.av]
  refine opK_pure (CopySy_ok v.wit hv.w) rfl (Sub.of_eq (by first | rfl | simp -implicitDefEqProofs only [go_sem, Sy.av, Sy.cells])) ?_
  simp -implicitDefEqProofs only [go_sem, hn4, hn5, not_false_eq_true, hn7, hn8, hn11, Sy.av, Sy.cells]
  refine opK_pure (RightS_ok s t hs ht hf hg v hv) rfl (Sub.of_eq (by first | rfl | simp -implicitDefEqProofs only [go_sem, Vd.av, Vd.cells, Sp.av, Sp.cells])) ?_
  simp -implicitDefEqProofs only [go_sem, hn4, hn5, not_false_eq_true, hn7, hn8, hn11, iA, c0, decide_true, hR, Bool.true_and]
  have himp : proofB s t s.acts.length p.lad p.pairs = true → v.holds = true := fun h => by rw [hh]; exact proof_ref C.m C.n h
  cases hv1 : v.holds with
  | false =>
    have hpf : proofB s t s.acts.length p.lad p.pairs = false := by
      cases h : proofB s t s.acts.length p.lad p.pairs with
      | false => rfl
      | true => have := himp h; rw [hv1] at this; cases this
    have hR2 := hR
    unfold rightV madeB at hR2
    rw [hv1, if_neg (by simp), Bool.and_eq_true, Bool.and_eq_true, Bool.and_eq_true, Bool.and_eq_true] at hR2
    obtain ⟨-, ⟨w1, w2, w3⟩, w4⟩ := hR2
    have w2 := of_decide_eq_true w2
    have w5 : satB v.wit t = false := by simpa using w4
    have f1 : fineY v.wit s = 0 := fineY_of w1 C.m w2
    have f2 : fineY v.wit t = 0 := fineY_of w1 C.n (w2.trans hst)
    simp -implicitDefEqProofs only [go_sem, hpf, hn4, hn5, not_false_eq_true, hn7, hn8, hn11]
    refine AW.draw tok hmix ⟨[], [], [], false⟩ (by kernel_rfl) (Has.of_sub (List.nil_sublist _)) ?_
    simp -implicitDefEqProofs only [go_sem, hn4, hn5, not_false_eq_true, hn7, hn8, hn11]
    refine opK_pure (CopySy_ok v.wit hv.w) rfl (Sub.of_eq (by first | rfl | simp -implicitDefEqProofs only [go_sem, Sy.av, Sy.cells])) ?_
    simp -implicitDefEqProofs only [go_sem, hn4, hn5, not_false_eq_true, hn7, hn8, hn11, Sy.av, Sy.cells]
    refine opK_pure (CopyS_ok s hs) rfl (Sub.of_eq (by first | rfl | simp -implicitDefEqProofs only [go_sem])) ?_
    simp -implicitDefEqProofs only [go_sem, hn4, hn5, not_false_eq_true, hn7, hn8, hn11]
    refine opK_pure (SatS_ok v.wit s hv.w hs hf) rfl (Sub.of_eq (by first | rfl | simp -implicitDefEqProofs only [go_sem, Sy.av, Sy.cells, Sp.av, Sp.cells])) ?_
    simp -implicitDefEqProofs only [go_sem, hn4, hn5, not_false_eq_true, hn7, hn8, hn11, satA, f1, w3, decide_true, Bool.true_and, iA]
    refine newK_intro fun n15 hn15 => ?_
    try simp -implicitDefEqProofs only [hset, List.map_append, List.map_cons, List.map_nil, List.cons_append, List.nil_append, List.mem_cons, List.mem_append, List.not_mem_nil, or_false, not_or] at hn15
    simp -implicitDefEqProofs only [go_sem, hn4, hn5, not_false_eq_true, hn7, hn8, hn11, hn15]
    refine AW.draw tok hmix ⟨[], [], [], false⟩ (by kernel_rfl) (Has.of_sub (List.nil_sublist _)) ?_
    simp -implicitDefEqProofs only [go_sem, hn4, hn5, not_false_eq_true, hn7, hn8, hn11, hn15]
    refine opK_pure (CopySy_ok v.wit hv.w) rfl (Sub.of_eq (by first | rfl | simp -implicitDefEqProofs only [go_sem, Sy.av, Sy.cells])) ?_
    simp -implicitDefEqProofs only [go_sem, hn4, hn5, not_false_eq_true, hn7, hn8, hn11, hn15, Sy.av, Sy.cells]
    refine opK_pure (CopyS_ok t ht) rfl (Sub.of_eq (by first | rfl | simp -implicitDefEqProofs only [go_sem])) ?_
    simp -implicitDefEqProofs only [go_sem, hn4, hn5, not_false_eq_true, hn7, hn8, hn11, hn15]
    refine opK_pure (SatS_ok v.wit t hv.w ht hg) rfl (Sub.of_eq (by first | rfl | simp -implicitDefEqProofs only [go_sem, Sy.av, Sy.cells, Sp.av, Sp.cells])) ?_
    simp -implicitDefEqProofs only [go_sem, hn4, hn5, not_false_eq_true, hn7, hn8, hn11, hn15, satA, f2, w5, decide_true, Bool.true_and, iA]
    refine newK_intro fun n17 hn17 => ?_
    try simp -implicitDefEqProofs only [hset, List.map_append, List.map_cons, List.map_nil, List.cons_append, List.nil_append, List.mem_cons, List.mem_append, List.not_mem_nil, or_false, not_or] at hn17
    simp -implicitDefEqProofs only [go_sem, hn4, hn5, not_false_eq_true, hn7, hn8, hn11, hn15, hn17]
    refine opK_pure (awake5_ok) rfl (Sub.of_eq (by first | rfl | simp -implicitDefEqProofs only [go_sem])) ?_
    simp -implicitDefEqProofs only [go_sem, hn4, hn5, not_false_eq_true, hn7, hn8, hn11, hn15, hn17]
    refine fnPost_ret tok ?_
    simp -implicitDefEqProofs only [go_sem, Tryz.results8]
  | true =>
  have hrf : refB s t s.acts.length = true := by rw [← hh, hv1]
  have hfe : fineY m s = fineY m t := by
    unfold fineY
    rw [val_valid C.m, val_valid C.n, hst]
  have hsat : fineY m s = 0 → satB m s = true → satB m t = true := fun hf0 h => by
    obtain ⟨g1, g2, g3⟩ := fineY_zero hf0
    have e : m.acts.length = s.acts.length := by rw [g3]
    rw [e] at g1
    exact sat_ref g1 C.m C.n h hrf
  cases hpf : proofB s t s.acts.length p.lad p.pairs
  all_goals
    simp -implicitDefEqProofs only [go_sem, hn4, hn5, not_false_eq_true, hn7, hn8, hn11]
    refine AW.draw tok hmix ⟨[], [], [], false⟩ (by kernel_rfl) (Has.of_sub (List.nil_sublist _)) ?_
    simp -implicitDefEqProofs only [go_sem, hn4, hn5, not_false_eq_true, hn7, hn8, hn11]
    refine opK_pure (CopySy_ok m hm) rfl (Sub.of_eq (by first | rfl | simp -implicitDefEqProofs only [go_sem, Sy.av, Sy.cells])) ?_
    simp -implicitDefEqProofs only [go_sem, hn4, hn5, not_false_eq_true, hn7, hn8, hn11, Sy.av, Sy.cells]
    refine opK_pure (CopyS_ok s hs) rfl (Sub.of_eq (by first | rfl | simp -implicitDefEqProofs only [go_sem])) ?_
    simp -implicitDefEqProofs only [go_sem, hn4, hn5, not_false_eq_true, hn7, hn8, hn11]
    refine opK_pure (SatS_ok m s hm hs hf) rfl (Sub.of_eq (by first | rfl | simp -implicitDefEqProofs only [go_sem, Sy.av, Sy.cells, Sp.av, Sp.cells])) ?_
    simp -implicitDefEqProofs only [go_sem, hn4, hn5, not_false_eq_true, hn7, hn8, hn11, satA, iA]
    refine newK_intro fun n19 hn19 => ?_
    try simp -implicitDefEqProofs only [hset, List.map_append, List.map_cons, List.map_nil, List.cons_append, List.nil_append, List.mem_cons, List.mem_append, List.not_mem_nil, or_false, not_or] at hn19
    simp -implicitDefEqProofs only [go_sem, hn4, hn5, not_false_eq_true, hn7, hn8, hn11, hn19]
    refine AW.draw tok hmix ⟨[], [], [], false⟩ (by kernel_rfl) (Has.of_sub (List.nil_sublist _)) ?_
    simp -implicitDefEqProofs only [go_sem, hn4, hn5, not_false_eq_true, hn7, hn8, hn11, hn19]
    refine opK_pure (CopySy_ok m hm) rfl (Sub.of_eq (by first | rfl | simp -implicitDefEqProofs only [go_sem, Sy.av, Sy.cells])) ?_
    simp -implicitDefEqProofs only [go_sem, hn4, hn5, not_false_eq_true, hn7, hn8, hn11, hn19, Sy.av, Sy.cells]
    refine opK_pure (CopyS_ok t ht) rfl (Sub.of_eq (by first | rfl | simp -implicitDefEqProofs only [go_sem])) ?_
    simp -implicitDefEqProofs only [go_sem, hn4, hn5, not_false_eq_true, hn7, hn8, hn11, hn19]
    refine opK_pure (SatS_ok m t hm ht hg) rfl (Sub.of_eq (by first | rfl | simp -implicitDefEqProofs only [go_sem, Sy.av, Sy.cells, Sp.av, Sp.cells])) ?_
    simp -implicitDefEqProofs only [go_sem, hn4, hn5, not_false_eq_true, hn7, hn8, hn11, hn19, satA, iA]
    refine newK_intro fun n21 hn21 => ?_
    try simp -implicitDefEqProofs only [hset, List.map_append, List.map_cons, List.map_nil, List.cons_append, List.nil_append, List.mem_cons, List.mem_append, List.not_mem_nil, or_false, not_or] at hn21
    simp -implicitDefEqProofs only [go_sem, hn4, hn5, not_false_eq_true, hn7, hn8, hn11, hn19, hn21, hfe, decide_true]
    by_cases f0 : fineY m t = 0
    · cases hz : satB m s with
      | false =>
        simp -implicitDefEqProofs only [go_sem, f0, decide_true, hn4, hn5, not_false_eq_true, hn7, hn8, hn11, hn19, hn21, Bool.true_and]
        refine opK_pure (awake5_ok) rfl (Sub.of_eq (by first | rfl | simp -implicitDefEqProofs only [go_sem])) ?_
        simp -implicitDefEqProofs only [go_sem, hn4, hn5, not_false_eq_true, hn7, hn8, hn11, hn19, hn21]
        refine fnPost_ret tok ?_
        simp -implicitDefEqProofs only [go_sem, Tryz.results8]
      | true =>
        have hz2 := hsat (hfe.trans f0) hz
        simp -implicitDefEqProofs only [go_sem, f0, decide_true, hn4, hn5, not_false_eq_true, hn7, hn8, hn11, hn19, hn21, Bool.true_and, hz2]
        refine opK_pure (awake5_ok) rfl (Sub.of_eq (by first | rfl | simp -implicitDefEqProofs only [go_sem])) ?_
        simp -implicitDefEqProofs only [go_sem, hn4, hn5, not_false_eq_true, hn7, hn8, hn11, hn19, hn21]
        refine fnPost_ret tok ?_
        simp -implicitDefEqProofs only [go_sem, Tryz.results8]
    · simp -implicitDefEqProofs only [go_sem, f0, decide_false, hn4, hn5, not_false_eq_true, hn7, hn8, hn11, hn19, hn21, Bool.false_and]
      refine opK_pure (awake5_ok) rfl (Sub.of_eq (by first | rfl | simp -implicitDefEqProofs only [go_sem])) ?_
      simp -implicitDefEqProofs only [go_sem, hn4, hn5, not_false_eq_true, hn7, hn8, hn11, hn19, hn21]
      refine fnPost_ret tok ?_
      simp -implicitDefEqProofs only [go_sem, Tryz.results8]
theorem RefineSound_fc (xs : List AV) (h : ShAs TT0 [82, 42, 45] xs) : Fc Tryz.prog 8 xs [] fun x _ => x = abool true := by
  cases h with
  | cons h1 h =>
  cases h with
  | cons h2 h =>
  cases h with
  | cons h3 h =>
  cases h
  obtain ⟨s, t, hs, hf, ht, hg, rfl⟩ := shA_two h1
  obtain ⟨p, hp, rfl⟩ := shA_proof h2
  obtain ⟨m, hm, rfl⟩ := shA_sy h3
  exact RefineSound_ok s t hs ht hf hg p hp m hm
end Go.Proofs.YtfininfcljdkbaaGreat
