/- Chapter 12, part Xb: the law FaceOwn. -/
import Derived.Test.YtebbiciepbbhkaaWalk9
set_option linter.unusedSimpArgs false
set_option linter.unusedVariables false
namespace Go.Proofs.Ytebbiciepbbhkaa
open Go Go.NS

/-- What Refines hands back: both lists in memory of their own. -/
def RefO (f g : Fa) (x : AV) (H : AHeap) : Prop := ∃ b nP vP nW vW, ∃ (L : Nat) (ps ws : List AV), L * 16 ≤ 140737488351232 ∧ ps.length = L * 2 ∧ ws.length * 8 ≤ 140737488351232 ∧ x = .tup [.agg [abool b, .own nP vP, .own nW vW], iA (comparedE f g)] ∧ H = [(nP, .row 34 2 vP ps), (nW, .row 3 1 vW ws)]
def RefO2 (f g : Fa) (x : AV) (H : AHeap) : Prop := ∃ H2, H.Perm H2 ∧ RefO f g x H2
def RefO1 (f g : Fa) (x : AV) (H : AHeap) : Prop := ∃ b nP vP, ∃ (L : Nat) (ps : List AV), L * 16 ≤ 140737488351232 ∧ ps.length = L * 2 ∧ x = .tup [.agg [abool b, .own nP vP, .raw (.slice none 0 0)], iA (comparedE f g)] ∧ H = [(nP, .row 34 2 vP ps)]

theorem Refines_O (f g : Fa) (hf : f.Small) (hg : g.Small) : Fc Try.prog 34 [f.av, g.av] [] (RefO f g) := by
  refine Fc.dropR ?_
  refine Fc.mono (R := RefO2 f g) ?_ fun x H ⟨H2, hp, h⟩ => ⟨H2, ⟨[], by rw [List.append_nil]; exact hp⟩, h⟩
  refine Fc.ownRes (R := fun x H => RefO2 f g x H ∨ RefO1 f g x H) ?_ ?_
  rotate_left
  · rintro x H1 (h | ⟨b, nP, vP, L, ps, hL, hp, rfl, rfl⟩)
    · exact .inl h
    · exact .inr ⟨fun x => .tup [.agg [abool b, .own nP vP, x], iA (comparedE f g)], 3, 1, by decide, rfl, lift_face [_, _] [] [_], fun nm _ => ⟨_, List.Perm.refl _, b, nP, vP, nm, 0, L, ps, [], hL, hp, by decide, rfl, rfl⟩⟩
  refine Fc.ownRes (Refines_own f g hf hg) ?_
  rintro x H1 (⟨c0, hok, nP, vP, rfl, rfl⟩ | ⟨c0, hok, nW, vW, rfl, rfl⟩ | ⟨c0, rfl, rfl⟩)
  · have C := compared_val c0
    have hmul : f.sts.length * g.sts.length ≤ 500 * 500 := Nat.mul_le_mul C.f.few C.g.few
    have hpl : (refV f g f.acts.length).pairs.length * 16 ≤ 140737488351232 := by
      simp only [refV, hok, if_true, List.length_map]
      have h1 := List.length_filter_le (fun p => decide (p ∈ (refL f g f.acts.length).map (·.1))) (allP f g)
      rw [allP_length] at h1
      have : (markL f g ((refL f g f.acts.length).map (·.1))).length ≤ f.sts.length * g.sts.length := h1
      omega
    exact .inl (.inr ⟨true, nP, vP, _, _, hpl, pc_length _, by rw [c0], rfl⟩)
  · have C := compared_val c0
    have hmul : f.sts.length * g.sts.length ≤ 500 * 500 := Nat.mul_le_mul C.f.few C.g.few
    have hll := in_length (refL_nodup f g f.acts.length) (refL_in C.f C.g)
    have hwl : ((refW f g f.acts.length).map iA).length * 8 ≤ 140737488351232 := by have := refW_len f g f.acts.length; rw [List.length_map]; omega
    exact .inr ⟨fun x => .tup [.agg [abool false, x, .own nW vW], iA 0], 34, 2, by decide, rfl, lift_face [_] [_] [_], fun nm _ => .inl ⟨_, List.Perm.swap _ _ _, false, nm, 0, nW, vW, 0, [], _, by decide, rfl, hwl, by rw [c0], rfl⟩⟩
  · exact .inr ⟨fun x => .tup [.agg [abool false, x, .raw (.slice none 0 0)], iA (comparedE f g)], 34, 2, by decide, rfl, lift_face [_] [_] [_], fun nm _ => .inr ⟨false, nm, 0, 0, [], by decide, rfl, rfl, rfl⟩⟩

theorem togR_small {f g : Fa} (hf : f.Small) : (togR f g).Small ∧ (togP f g).length * 16 ≤ 140737488351232 := by
  by_cases he : togE f g = 0
  · have c0 : pairedE f g = 0 := Classical.byContradiction fun h => h (by simp only [togE, if_neg h] at he; exact he)
    obtain ⟨h1, h2⟩ := paired_val c0
    obtain ⟨hv, hw, _⟩ := fine_val h1
    have h4 : f.sts.length * g.sts.length ≤ 500 * 500 := Nat.mul_le_mul hv.few hw.few
    have h5 : (togL f g f.acts.length (keepD f g f.acts.length)).length ≤ f.sts.length * g.sts.length := in_length (foundL_nodup f g f.acts.length (ownS f g) (keepD f g f.acts.length)) (foundL_in hv hw)
    simp only [togR, togP, if_pos he]
    exact ⟨togF_small hv hw hf _, by omega⟩
  · simp only [togR, togP, if_neg he]
    exact ⟨zero_small, by decide⟩

theorem otherF_small {f : Fa} (hf : f.Small) : (otherF f).Small := by
  unfold otherF
  split
  · exact turn_small hf
  · exact zero_small

theorem fitsW_small (f g : Fa) : (fitsW f g).length * 8 ≤ 140737488351232 := by
  by_cases c0 : pairedE f g = 0
  · obtain ⟨h1, h2⟩ := paired_val c0
    obtain ⟨hv, hw, _⟩ := fine_val h1
    have h4 : f.sts.length * g.sts.length ≤ 500 * 500 := Nat.mul_le_mul hv.few hw.few
    have h5 := in_length (foundL_nodup f g f.acts.length (f.oN ||| g.oN) fun _ => true) (foundL_in hv hw (s := f.oN ||| g.oN) (keep := fun _ => true))
    have h6 : (wayL f g f.acts.length).length ≤ f.sts.length * g.sts.length := h5
    simp only [fitsW, if_pos c0, wayW]
    split
    · rename_i h
      have := wordRev_bound (wayL f g f.acts.length) (wayI f g f.acts.length + 1) (wayI f g f.acts.length)
      rw [List.length_reverse]; omega
    · simp
  · simp only [fitsW, if_neg c0]; decide


theorem set2_length {l : List AV} {i : Nat} {x y : AV} (h : i + 2 ≤ l.length) : (List.take i l ++ x :: y :: List.drop (i + 2) l).length = l.length := by
  simp only [List.length_append, List.length_take, List.length_cons, List.length_drop]; omega



set_option maxRecDepth 4000 in
set_option maxHeartbeats 8000000 in
theorem FaceOwn_ok (f g : Fa) (hf : f.Small) (hg : g.Small) : Fp Try.prog 10 [f.av, g.av] (abool true) := by
  obtain ⟨htS, htP⟩ := togR_small (g := g) hf
  have hoS := otherF_small hf
  have hwS := fitsW_small f g
  refine Fp.of_vc tok Try.func10 rfl (by decide) ?_
  simp -implicitDefEqProofs only [go_sem, Try.ntmps10, Fa.av, Fa.cells, iA]
  refine newK_intro fun n2 hn2 => ?_
  try simp -implicitDefEqProofs only [hset, List.map_append, List.map_cons, List.map_nil, List.cons_append, List.nil_append, List.mem_cons, List.mem_append, List.not_mem_nil, or_false, not_or] at hn2
  simp -implicitDefEqProofs only [go_sem]
  refine newK_intro fun n3 hn3 => ?_
  try simp -implicitDefEqProofs only [hset, List.map_append, List.map_cons, List.map_nil, List.cons_append, List.nil_append, List.mem_cons, List.mem_append, List.not_mem_nil, or_false, not_or] at hn3
  simp -implicitDefEqProofs only [go_sem, hn2, hn3, not_false_eq_true]
  cases hg1 : decide ((f.sts.length : Int) > 20) with
  | true =>
    simp -implicitDefEqProofs only [go_sem, hn2, hn3, not_false_eq_true, hg1]
    refine opK_pure (awake_ok) rfl (Sub.of_eq (by first | rfl | simp -implicitDefEqProofs only [go_sem])) ?_
    simp -implicitDefEqProofs only [go_sem, hn2, hn3, not_false_eq_true]
    refine fnPost_ret tok ?_
    simp -implicitDefEqProofs only [go_sem, Try.results10]
  | false =>
  simp -implicitDefEqProofs only [go_sem, hn2, hn3, not_false_eq_true, hg1]
  cases hg2 : decide ((g.sts.length : Int) > 20) with
  | true =>
    simp -implicitDefEqProofs only [go_sem, hn2, hn3, not_false_eq_true, hg2]
    refine opK_pure (awake_ok) rfl (Sub.of_eq (by first | rfl | simp -implicitDefEqProofs only [go_sem])) ?_
    simp -implicitDefEqProofs only [go_sem, hn2, hn3, not_false_eq_true]
    refine fnPost_ret tok ?_
    simp -implicitDefEqProofs only [go_sem, Try.results10]
  | false =>
  simp -implicitDefEqProofs only [go_sem, hn2, hn3, not_false_eq_true, hg2]
  refine opK_pure (Few_ok f hf 500 (by decide)) rfl (Sub.of_eq (by first | rfl | simp -implicitDefEqProofs only [go_sem])) ?_
  cases hg3 : fewB f 500 with
  | false =>
    simp -implicitDefEqProofs only [go_sem, hn2, hn3, not_false_eq_true, hg3]
    refine opK_pure (awake_ok) rfl (Sub.of_eq (by first | rfl | simp -implicitDefEqProofs only [go_sem])) ?_
    simp -implicitDefEqProofs only [go_sem, hn2, hn3, not_false_eq_true]
    refine fnPost_ret tok ?_
    simp -implicitDefEqProofs only [go_sem, Try.results10]
  | true =>
  simp -implicitDefEqProofs only [go_sem, hn2, hn3, not_false_eq_true, hg3]
  refine opK_pure (Few_ok g hg 500 (by decide)) rfl (Sub.of_eq (by first | rfl | simp -implicitDefEqProofs only [go_sem])) ?_
  cases hg4 : fewB g 500 with
  | false =>
    simp -implicitDefEqProofs only [go_sem, hn2, hn3, not_false_eq_true, hg4]
    refine opK_pure (awake_ok) rfl (Sub.of_eq (by first | rfl | simp -implicitDefEqProofs only [go_sem])) ?_
    simp -implicitDefEqProofs only [go_sem, hn2, hn3, not_false_eq_true]
    refine fnPost_ret tok ?_
    simp -implicitDefEqProofs only [go_sem, Try.results10]
  | true =>
  simp -implicitDefEqProofs only [go_sem, hn2, hn3, not_false_eq_true, hg4]
  refine AW.draw tok hmix ⟨[], [], [], false⟩ (by kernel_rfl) (Has.of_sub (List.nil_sublist _)) ?_
  simp -implicitDefEqProofs only [go_sem, hn2, hn3, not_false_eq_true]
  refine opK_pure (Copy_ok f hf) rfl (Sub.of_eq (by first | rfl | simp -implicitDefEqProofs only [go_sem])) ?_
  simp -implicitDefEqProofs only [go_sem, hn2, hn3, not_false_eq_true]
  refine opK_pure (Copy_ok g hg) rfl (Sub.of_eq (by first | rfl | simp -implicitDefEqProofs only [go_sem])) ?_
  simp -implicitDefEqProofs only [go_sem, hn2, hn3, not_false_eq_true, Fa.av, Fa.cells, iA]
  refine newK_intro fun n5 hn5 => ?_
  try simp -implicitDefEqProofs only [hset, List.map_append, List.map_cons, List.map_nil, List.cons_append, List.nil_append, List.mem_cons, List.mem_append, List.not_mem_nil, or_false, not_or] at hn5
  simp -implicitDefEqProofs only [go_sem, hn2, hn3, not_false_eq_true, hn5]
  refine newK_intro fun n6 hn6 => ?_
  try simp -implicitDefEqProofs only [hset, List.map_append, List.map_cons, List.map_nil, List.cons_append, List.nil_append, List.mem_cons, List.mem_append, List.not_mem_nil, or_false, not_or] at hn6
  simp -implicitDefEqProofs only [go_sem, hn2, hn3, not_false_eq_true, hn5, hn6]
  refine opK_call [] [(n2, .cells 25 [strsA f.acts, .raw (.int .i64 f.inn), .raw (.int .i64 f.out), .imm 1 (f.sts.map intsA)]), (n3, .cells 25 [strsA g.acts, .raw (.int .i64 g.inn), .raw (.int .i64 g.out), .imm 1 (g.sts.map intsA)]), (n5, .cells 25 [strsA f.acts, .raw (.int .i64 f.inn), .raw (.int .i64 f.out), .imm 1 (f.sts.map intsA)]), (n6, .cells 25 [strsA g.acts, .raw (.int .i64 g.inn), .raw (.int .i64 g.out), .imm 1 (g.sts.map intsA)])] rfl (Together_own f g hf hg) rfl (Sub.of_eq (by simp -implicitDefEqProofs only [go_sem, Fa.av, Fa.cells, iA])) (List.Perm.of_eq (List.append_nil _)) ?_
  rintro x1 H1 ⟨y1, HF, nP, vP, hOF, rfl, rfl⟩ hnd
  obtain ⟨nA, vA, nS, vS, ns, vs, rfl, hHF⟩ := hOF
  have hnP : nP ∉ List.map (fun x => x.1) ([(n2, .cells 25 [strsA f.acts, .raw (.int .i64 f.inn), .raw (.int .i64 f.out), .imm 1 (f.sts.map intsA)]), (n3, .cells 25 [strsA g.acts, .raw (.int .i64 g.inn), .raw (.int .i64 g.out), .imm 1 (g.sts.map intsA)]), (n5, .cells 25 [strsA f.acts, .raw (.int .i64 f.inn), .raw (.int .i64 f.out), .imm 1 (f.sts.map intsA)]), (n6, .cells 25 [strsA g.acts, .raw (.int .i64 g.inn), .raw (.int .i64 g.out), .imm 1 (g.sts.map intsA)])] : AHeap) := fun h => by
    rw [List.map_append, List.nodup_append] at hnd
    exact hnd.2.2 _ h _ (by simp) rfl
  clear hnd
  try simp -implicitDefEqProofs only [hset, List.map_append, List.map_cons, List.map_nil, List.cons_append, List.nil_append, List.mem_cons, List.mem_append, List.not_mem_nil, or_false, not_or] at hnP
  simp -implicitDefEqProofs only [go_sem, hn2, hn3, not_false_eq_true, hn5, hn6, hnP, hget_skip, hset_skip, List.append_assoc, iA]
  refine newK_intro fun n7 hn7 => ?_
  try simp -implicitDefEqProofs only [hset, List.map_append, List.map_cons, List.map_nil, List.cons_append, List.nil_append, List.mem_cons, List.mem_append, List.not_mem_nil, or_false, not_or] at hn7
  simp -implicitDefEqProofs only [go_sem, hn2, hn3, not_false_eq_true, hn5, hn6, hnP, hget_skip, hset_skip, List.append_assoc, hn7]
  refine opK_call [] ([(n2, .cells 25 [strsA f.acts, .raw (.int .i64 f.inn), .raw (.int .i64 f.out), .imm 1 (f.sts.map intsA)]), (n3, .cells 25 [strsA g.acts, .raw (.int .i64 g.inn), .raw (.int .i64 g.out), .imm 1 (g.sts.map intsA)]), (n5, .cells 25 [strsA f.acts, .raw (.int .i64 f.inn), .raw (.int .i64 f.out), .imm 1 (f.sts.map intsA)]), (n6, .cells 25 [strsA g.acts, .raw (.int .i64 g.inn), .raw (.int .i64 g.out), .imm 1 (g.sts.map intsA)]), (nP, .row 34 2 vP (qc (togP f g)))] ++ (HF ++ [(n7, .cells 25 [.own nA vA, .raw (.int .i64 (togR f g).inn), .raw (.int .i64 (togR f g).out), .own nS vS])])) rfl (Other_own f hf) rfl (Sub.of_eq (by simp -implicitDefEqProofs only [go_sem, Fa.av, Fa.cells, iA])) (List.Perm.of_eq (List.append_nil _)) ?_
  rintro x2 HO ⟨y2, hO2, rfl⟩ hnd
  obtain ⟨nA2, vA2, nS2, vS2, ns2, vs2, rfl, hHO⟩ := hO2
  clear hnd
  simp -implicitDefEqProofs only [go_sem, hn2, hn3, not_false_eq_true, hn5, hn6, hnP, hget_skip, hset_skip, List.append_assoc, hn7, iA]
  refine newK_intro fun n10 hn10 => ?_
  try simp -implicitDefEqProofs only [hset, List.map_append, List.map_cons, List.map_nil, List.cons_append, List.nil_append, List.mem_cons, List.mem_append, List.not_mem_nil, or_false, not_or] at hn10
  simp -implicitDefEqProofs only [go_sem, hn2, hn3, not_false_eq_true, hn5, hn6, hnP, hget_skip, hset_skip, List.append_assoc, hn7, hn10]
  refine opK_call [] ([(n2, .cells 25 [strsA f.acts, .raw (.int .i64 f.inn), .raw (.int .i64 f.out), .imm 1 (f.sts.map intsA)]), (n3, .cells 25 [strsA g.acts, .raw (.int .i64 g.inn), .raw (.int .i64 g.out), .imm 1 (g.sts.map intsA)]), (n5, .cells 25 [strsA f.acts, .raw (.int .i64 f.inn), .raw (.int .i64 f.out), .imm 1 (f.sts.map intsA)]), (n6, .cells 25 [strsA g.acts, .raw (.int .i64 g.inn), .raw (.int .i64 g.out), .imm 1 (g.sts.map intsA)]), (nP, .row 34 2 vP (qc (togP f g)))] ++ (HF ++ ([(n7, .cells 25 [.own nA vA, .raw (.int .i64 (togR f g).inn), .raw (.int .i64 (togR f g).out), .own nS vS])] ++ (HO ++ [(n10, .cells 25 [.own nA2 vA2, .raw (.int .i64 (otherF f).inn), .raw (.int .i64 (otherF f).out), .own nS2 vS2])])))) rfl (Refines_O f g hf hg) rfl (Sub.of_eq (by simp -implicitDefEqProofs only [go_sem, Fa.av, Fa.cells, iA])) (List.Perm.of_eq (List.append_nil _)) ?_
  rintro x3 H3 ⟨rb, nR, vR, nW, vW, L, ps, ws, hL, hps, hws, rfl, rfl⟩ hnd
  have hnR : nR ∉ List.map (fun x => x.1) ([(n2, .cells 25 [strsA f.acts, .raw (.int .i64 f.inn), .raw (.int .i64 f.out), .imm 1 (f.sts.map intsA)]), (n3, .cells 25 [strsA g.acts, .raw (.int .i64 g.inn), .raw (.int .i64 g.out), .imm 1 (g.sts.map intsA)]), (n5, .cells 25 [strsA f.acts, .raw (.int .i64 f.inn), .raw (.int .i64 f.out), .imm 1 (f.sts.map intsA)]), (n6, .cells 25 [strsA g.acts, .raw (.int .i64 g.inn), .raw (.int .i64 g.out), .imm 1 (g.sts.map intsA)]), (nP, .row 34 2 vP (qc (togP f g)))] ++ (HF ++ ([(n7, .cells 25 [.own nA vA, .raw (.int .i64 (togR f g).inn), .raw (.int .i64 (togR f g).out), .own nS vS])] ++ (HO ++ [(n10, .cells 25 [.own nA2 vA2, .raw (.int .i64 (otherF f).inn), .raw (.int .i64 (otherF f).out), .own nS2 vS2])]))) : AHeap) := fun h => by
    rw [List.map_append, List.nodup_append] at hnd
    exact hnd.2.2 _ h _ (by simp) rfl
  have hnW : nW ∉ List.map (fun x => x.1) ([(n2, .cells 25 [strsA f.acts, .raw (.int .i64 f.inn), .raw (.int .i64 f.out), .imm 1 (f.sts.map intsA)]), (n3, .cells 25 [strsA g.acts, .raw (.int .i64 g.inn), .raw (.int .i64 g.out), .imm 1 (g.sts.map intsA)]), (n5, .cells 25 [strsA f.acts, .raw (.int .i64 f.inn), .raw (.int .i64 f.out), .imm 1 (f.sts.map intsA)]), (n6, .cells 25 [strsA g.acts, .raw (.int .i64 g.inn), .raw (.int .i64 g.out), .imm 1 (g.sts.map intsA)]), (nP, .row 34 2 vP (qc (togP f g)))] ++ (HF ++ ([(n7, .cells 25 [.own nA vA, .raw (.int .i64 (togR f g).inn), .raw (.int .i64 (togR f g).out), .own nS vS])] ++ (HO ++ [(n10, .cells 25 [.own nA2 vA2, .raw (.int .i64 (otherF f).inn), .raw (.int .i64 (otherF f).out), .own nS2 vS2])]))) : AHeap) := fun h => by
    rw [List.map_append, List.nodup_append] at hnd
    exact hnd.2.2 _ h _ (by simp) rfl
  have hWR : ¬ nW = nR := fun h => by
    rw [List.map_append, List.nodup_append] at hnd
    have := hnd.2.1
    simp [h] at this
  clear hnd
  try simp -implicitDefEqProofs only [hset, List.map_append, List.map_cons, List.map_nil, List.cons_append, List.nil_append, List.mem_cons, List.mem_append, List.not_mem_nil, or_false, not_or] at hnR
  try simp -implicitDefEqProofs only [hset, List.map_append, List.map_cons, List.map_nil, List.cons_append, List.nil_append, List.mem_cons, List.mem_append, List.not_mem_nil, or_false, not_or] at hnW
  simp -implicitDefEqProofs only [go_sem, hn2, hn3, not_false_eq_true, hn5, hn6, hnP, hget_skip, hset_skip, List.append_assoc, hn7, hn10, hnR, hnW, hWR, iA]
  refine newK_intro fun n12 hn12 => ?_
  try simp -implicitDefEqProofs only [hset, List.map_append, List.map_cons, List.map_nil, List.cons_append, List.nil_append, List.mem_cons, List.mem_append, List.not_mem_nil, or_false, not_or] at hn12
  simp -implicitDefEqProofs only [go_sem, hn2, hn3, not_false_eq_true, hn5, hn6, hnP, hget_skip, hset_skip, List.append_assoc, hn7, hn10, hnR, hnW, hWR, hn12]
  refine opK_call [] ([(n2, .cells 25 [strsA f.acts, .raw (.int .i64 f.inn), .raw (.int .i64 f.out), .imm 1 (f.sts.map intsA)]), (n3, .cells 25 [strsA g.acts, .raw (.int .i64 g.inn), .raw (.int .i64 g.out), .imm 1 (g.sts.map intsA)]), (n5, .cells 25 [strsA f.acts, .raw (.int .i64 f.inn), .raw (.int .i64 f.out), .imm 1 (f.sts.map intsA)]), (n6, .cells 25 [strsA g.acts, .raw (.int .i64 g.inn), .raw (.int .i64 g.out), .imm 1 (g.sts.map intsA)]), (nP, .row 34 2 vP (qc (togP f g)))] ++ (HF ++ ([(n7, .cells 25 [.own nA vA, .raw (.int .i64 (togR f g).inn), .raw (.int .i64 (togR f g).out), .own nS vS])] ++ (HO ++ [(n10, .cells 25 [.own nA2 vA2, .raw (.int .i64 (otherF f).inn), .raw (.int .i64 (otherF f).out), .own nS2 vS2]), (nR, .row 34 2 vR ps), (nW, .row 3 1 vW ws), (n12, .cells 53 [.raw (.bool rb), .own nR vR, .own nW vW])])))) rfl (Fits_own f g hf hg) rfl (Sub.of_eq (by simp -implicitDefEqProofs only [go_sem, Fa.av, Fa.cells, iA])) (List.Perm.of_eq (List.append_nil _)) ?_
  rintro x4 H4 ⟨nG, vG, rfl, rfl⟩ hnd
  have hnG : nG ∉ List.map (fun x => x.1) ([(n2, .cells 25 [strsA f.acts, .raw (.int .i64 f.inn), .raw (.int .i64 f.out), .imm 1 (f.sts.map intsA)]), (n3, .cells 25 [strsA g.acts, .raw (.int .i64 g.inn), .raw (.int .i64 g.out), .imm 1 (g.sts.map intsA)]), (n5, .cells 25 [strsA f.acts, .raw (.int .i64 f.inn), .raw (.int .i64 f.out), .imm 1 (f.sts.map intsA)]), (n6, .cells 25 [strsA g.acts, .raw (.int .i64 g.inn), .raw (.int .i64 g.out), .imm 1 (g.sts.map intsA)]), (nP, .row 34 2 vP (qc (togP f g)))] ++ (HF ++ ([(n7, .cells 25 [.own nA vA, .raw (.int .i64 (togR f g).inn), .raw (.int .i64 (togR f g).out), .own nS vS])] ++ (HO ++ [(n10, .cells 25 [.own nA2 vA2, .raw (.int .i64 (otherF f).inn), .raw (.int .i64 (otherF f).out), .own nS2 vS2]), (nR, .row 34 2 vR ps), (nW, .row 3 1 vW ws), (n12, .cells 53 [.raw (.bool rb), .own nR vR, .own nW vW])]))) : AHeap) := fun h => by
    rw [List.map_append, List.nodup_append] at hnd
    exact hnd.2.2 _ h _ (by simp) rfl
  clear hnd
  try simp -implicitDefEqProofs only [hset, List.map_append, List.map_cons, List.map_nil, List.cons_append, List.nil_append, List.mem_cons, List.mem_append, List.not_mem_nil, or_false, not_or] at hnG
  simp -implicitDefEqProofs only [go_sem, hn2, hn3, not_false_eq_true, hn5, hn6, hnP, hget_skip, hset_skip, List.append_assoc, hn7, hn10, hnR, hnW, hWR, hn12, hnG, iA]
  obtain ⟨gs, hgs⟩ : ∃ gs, gs = (fitsW f g).map iA := ⟨_, rfl⟩
  have hgl : gs.length = (fitsW f g).length := by rw [hgs, List.length_map]
  obtain ⟨ts, hts⟩ : ∃ ts, ts = qc (togP f g) := ⟨_, rfl⟩
  have htl : ts.length = (togP f g).length * 2 := by rw [hts, qc_length]
  rw [← hgs, ← hts]
  refine opK_call HF ([(n2, .cells 25 [strsA f.acts, .raw (.int .i64 f.inn), .raw (.int .i64 f.out), .imm 1 (f.sts.map intsA)]), (n3, .cells 25 [strsA g.acts, .raw (.int .i64 g.inn), .raw (.int .i64 g.out), .imm 1 (g.sts.map intsA)]), (n5, .cells 25 [strsA f.acts, .raw (.int .i64 f.inn), .raw (.int .i64 f.out), .imm 1 (f.sts.map intsA)]), (n6, .cells 25 [strsA g.acts, .raw (.int .i64 g.inn), .raw (.int .i64 g.out), .imm 1 (g.sts.map intsA)]), (nP, .row 34 2 vP ts)] ++ ([(n7, .cells 25 [.own nA vA, .raw (.int .i64 (togR f g).inn), .raw (.int .i64 (togR f g).out), .own nS vS])] ++ (HO ++ [(n10, .cells 25 [.own nA2 vA2, .raw (.int .i64 (otherF f).inn), .raw (.int .i64 (otherF f).out), .own nS2 vS2]), (nR, .row 34 2 vR ps), (nW, .row 3 1 vW ws), (n12, .cells 53 [.raw (.bool rb), .own nR vR, .own nW vW]), (nG, .row 3 1 vG gs)]))) rfl (spoil_ok (togR f g) htS ⟨nA, vA, nS, vS, ns, vs, rfl, hHF⟩) rfl (Sub.of_eq (by simp -implicitDefEqProofs only [go_sem, iA])) (perm_mid _ HF _) ?_
  rintro x5 H5 rfl hnd
  clear hnd
  simp -implicitDefEqProofs only [go_sem, hn2, hn3, not_false_eq_true, hn5, hn6, hnP, hget_skip, hset_skip, List.append_assoc, hn7, hn10, hnR, hnW, hWR, hn12, hnG, List.append_nil]
  refine opK_call HO ([(n2, .cells 25 [strsA f.acts, .raw (.int .i64 f.inn), .raw (.int .i64 f.out), .imm 1 (f.sts.map intsA)]), (n3, .cells 25 [strsA g.acts, .raw (.int .i64 g.inn), .raw (.int .i64 g.out), .imm 1 (g.sts.map intsA)]), (n5, .cells 25 [strsA f.acts, .raw (.int .i64 f.inn), .raw (.int .i64 f.out), .imm 1 (f.sts.map intsA)]), (n6, .cells 25 [strsA g.acts, .raw (.int .i64 g.inn), .raw (.int .i64 g.out), .imm 1 (g.sts.map intsA)]), (nP, .row 34 2 vP ts), (n7, .cells 25 [.own nA vA, .raw (.int .i64 (togR f g).inn), .raw (.int .i64 (togR f g).out), .own nS vS])] ++ [(n10, .cells 25 [.own nA2 vA2, .raw (.int .i64 (otherF f).inn), .raw (.int .i64 (otherF f).out), .own nS2 vS2]), (nR, .row 34 2 vR ps), (nW, .row 3 1 vW ws), (n12, .cells 53 [.raw (.bool rb), .own nR vR, .own nW vW]), (nG, .row 3 1 vG gs)]) rfl (spoil_ok (otherF f) hoS ⟨nA2, vA2, nS2, vS2, ns2, vs2, rfl, hHO⟩) rfl (Sub.of_eq (by simp -implicitDefEqProofs only [go_sem, iA])) (perm_mid _ HO _) ?_
  rintro x6 H6 rfl hnd
  clear hnd
  obtain ⟨Lp, hLp⟩ : ∃ Lp, Lp = (togP f g).length := ⟨_, rfl⟩
  obtain ⟨Lg, hLg⟩ : ∃ Lg, Lg = (fitsW f g).length := ⟨_, rfl⟩
  obtain ⟨Lw, hLw⟩ : ∃ Lw, Lw = ws.length := ⟨_, rfl⟩
  rw [← hLp] at htl htP
  rw [← hLg] at hgl hwS
  rw [← hLw] at hws
  have hgl : gs.length = Lg * 1 := by omega
  have hwl : ws.length = Lw * 1 := by omega
  clear hgs hts hLw
  have hd2 : ∀ m : Nat, m * 2 / 2 = m := fun m => by omega
  simp -implicitDefEqProofs only [go_sem, hn2, hn3, not_false_eq_true, hn5, hn6, hnP, hget_skip, hset_skip, List.append_assoc, hn7, hn10, hnR, hnW, hWR, hn12, hnG, List.append_nil, htl, hd2]
  refine AW.loopP tok (α := Nat × List AV) (fun a => slots 128 [(2, .ptr n2 0), (3, .ptr n3 0), (5, .ptr n5 0), (6, .ptr n6 0), (8, .own nP vP), (12, .ptr n12 0), (15, .own nG vG), (76, iA Lp), (77, iA a.1)]) (fun a => ([(n2, .cells 25 [strsA f.acts, .raw (.int .i64 f.inn), .raw (.int .i64 f.out), .imm 1 (f.sts.map intsA)]), (n3, .cells 25 [strsA g.acts, .raw (.int .i64 g.inn), .raw (.int .i64 g.out), .imm 1 (g.sts.map intsA)]), (n5, .cells 25 [strsA f.acts, .raw (.int .i64 f.inn), .raw (.int .i64 f.out), .imm 1 (f.sts.map intsA)]), (n6, .cells 25 [strsA g.acts, .raw (.int .i64 g.inn), .raw (.int .i64 g.out), .imm 1 (g.sts.map intsA)]), (nP, .row 34 2 vP (a.2)), (n7, .cells 25 [.own nA vA, .raw (.int .i64 (togR f g).inn), .raw (.int .i64 (togR f g).out), .own nS vS]), (n10, .cells 25 [.own nA2 vA2, .raw (.int .i64 (otherF f).inn), .raw (.int .i64 (otherF f).out), .own nS2 vS2]), (nR, .row 34 2 vR (ps)), (nW, .row 3 1 vW (ws)), (n12, .cells 53 [.raw (.bool rb), .own nR vR, .own nW vW]), (nG, .row 3 1 vG (gs))])) (fun a => a.1 ≤ Lp ∧ a.2.length = Lp * 2) (fun a => Lp - a.1) (0, ts) ⟨Nat.zero_le _, htl⟩ (by simp -implicitDefEqProofs only [go_sem, iA]) (Has.refl _) ?_
  rintro ⟨i, ts⟩ ⟨hi, htl⟩
  simp only at hi htl
  simp -implicitDefEqProofs only [go_sem, iA]
  by_cases hil : i < Lp
  · skip
    have hi1 : i * 2 + 2 ≤ Lp * 2 := by omega
    have hi2 : i * 2 < Lp * 2 := by omega
    simp -implicitDefEqProofs only [go_sem, dlt_true hil, hn2, hn3, not_false_eq_true, hn5, hn6, hnP, hget_skip, hset_skip, List.append_assoc, hn7, hn10, hnR, hnW, hWR, hn12, hnG, htl, hi1, hi2, hd2, hil, wrap_up hil (by omega)]
    exact ⟨(i + 1, List.take (i * 2) ts ++ .raw (.int .i64 (-5)) :: .raw (.int .i64 (-5)) :: List.drop (i * 2 + 2) ts), ⟨hil, by simp only; rw [set2_length (by omega)]; exact htl⟩, by simp only; omega, by simp -implicitDefEqProofs only [go_sem, iA], Has.refl _⟩
  obtain rfl : Lp = i := by omega
  simp -implicitDefEqProofs only [go_sem, hn2, hn3, not_false_eq_true, hn5, hn6, hnP, hget_skip, hset_skip, List.append_assoc, hn7, hn10, hnR, hnW, hWR, hn12, hnG, hps, hd2]
  refine AW.loopP tok (α := Nat × List AV) (fun a => slots 128 [(2, .ptr n2 0), (3, .ptr n3 0), (5, .ptr n5 0), (6, .ptr n6 0), (8, .own nP vP), (12, .ptr n12 0), (15, .own nG vG), (87, iA L), (88, iA a.1)]) (fun a => ([(n2, .cells 25 [strsA f.acts, .raw (.int .i64 f.inn), .raw (.int .i64 f.out), .imm 1 (f.sts.map intsA)]), (n3, .cells 25 [strsA g.acts, .raw (.int .i64 g.inn), .raw (.int .i64 g.out), .imm 1 (g.sts.map intsA)]), (n5, .cells 25 [strsA f.acts, .raw (.int .i64 f.inn), .raw (.int .i64 f.out), .imm 1 (f.sts.map intsA)]), (n6, .cells 25 [strsA g.acts, .raw (.int .i64 g.inn), .raw (.int .i64 g.out), .imm 1 (g.sts.map intsA)]), (nP, .row 34 2 vP (ts)), (n7, .cells 25 [.own nA vA, .raw (.int .i64 (togR f g).inn), .raw (.int .i64 (togR f g).out), .own nS vS]), (n10, .cells 25 [.own nA2 vA2, .raw (.int .i64 (otherF f).inn), .raw (.int .i64 (otherF f).out), .own nS2 vS2]), (nR, .row 34 2 vR (a.2)), (nW, .row 3 1 vW (ws)), (n12, .cells 53 [.raw (.bool rb), .own nR vR, .own nW vW]), (nG, .row 3 1 vG (gs))])) (fun a => a.1 ≤ L ∧ a.2.length = L * 2) (fun a => L - a.1) (0, ps) ⟨Nat.zero_le _, hps⟩ (by simp -implicitDefEqProofs only [go_sem, iA]) (Has.refl _) ?_
  rintro ⟨i, ps⟩ ⟨hi, hps⟩
  simp only at hi hps
  simp -implicitDefEqProofs only [go_sem, iA]
  by_cases hil : i < L
  · skip
    have hi1 : i * 2 + 2 ≤ L * 2 := by omega
    have hi2 : i * 2 < L * 2 := by omega
    simp -implicitDefEqProofs only [go_sem, dlt_true hil, hn2, hn3, not_false_eq_true, hn5, hn6, hnP, hget_skip, hset_skip, List.append_assoc, hn7, hn10, hnR, hnW, hWR, hn12, hnG, hps, hi1, hi2, hd2, hil, wrap_up hil (by omega)]
    exact ⟨(i + 1, List.take (i * 2) ps ++ .raw (.int .i64 (-5)) :: .raw (.int .i64 (-5)) :: List.drop (i * 2 + 2) ps), ⟨hil, by simp only; rw [set2_length (by omega)]; exact hps⟩, by simp only; omega, by simp -implicitDefEqProofs only [go_sem, iA], Has.refl _⟩
  obtain rfl : L = i := by omega
  have hwl1 : ws.length = Lw := by omega
  simp -implicitDefEqProofs only [go_sem, hn2, hn3, not_false_eq_true, hn5, hn6, hnP, hget_skip, hset_skip, List.append_assoc, hn7, hn10, hnR, hnW, hWR, hn12, hnG, hwl1]
  refine AW.loopP tok (α := Nat × List AV) (fun a => slots 128 [(2, .ptr n2 0), (3, .ptr n3 0), (5, .ptr n5 0), (6, .ptr n6 0), (8, .own nP vP), (12, .ptr n12 0), (15, .own nG vG), (99, iA Lw), (100, iA a.1)]) (fun a => ([(n2, .cells 25 [strsA f.acts, .raw (.int .i64 f.inn), .raw (.int .i64 f.out), .imm 1 (f.sts.map intsA)]), (n3, .cells 25 [strsA g.acts, .raw (.int .i64 g.inn), .raw (.int .i64 g.out), .imm 1 (g.sts.map intsA)]), (n5, .cells 25 [strsA f.acts, .raw (.int .i64 f.inn), .raw (.int .i64 f.out), .imm 1 (f.sts.map intsA)]), (n6, .cells 25 [strsA g.acts, .raw (.int .i64 g.inn), .raw (.int .i64 g.out), .imm 1 (g.sts.map intsA)]), (nP, .row 34 2 vP (ts)), (n7, .cells 25 [.own nA vA, .raw (.int .i64 (togR f g).inn), .raw (.int .i64 (togR f g).out), .own nS vS]), (n10, .cells 25 [.own nA2 vA2, .raw (.int .i64 (otherF f).inn), .raw (.int .i64 (otherF f).out), .own nS2 vS2]), (nR, .row 34 2 vR (ps)), (nW, .row 3 1 vW (a.2)), (n12, .cells 53 [.raw (.bool rb), .own nR vR, .own nW vW]), (nG, .row 3 1 vG (gs))])) (fun a => a.1 ≤ Lw ∧ a.2.length = Lw * 1) (fun a => Lw - a.1) (0, ws) ⟨Nat.zero_le _, hwl⟩ (by simp -implicitDefEqProofs only [go_sem, iA]) (Has.refl _) ?_
  rintro ⟨i, ws⟩ ⟨hi, hwl⟩
  simp only at hi hwl
  simp -implicitDefEqProofs only [go_sem, iA]
  by_cases hil : i < Lw
  · skip
    have hwl : ws.length = Lw := by omega
    have hi1 : i + 1 ≤ Lw := hil
    simp -implicitDefEqProofs only [go_sem, dlt_true hil, hn2, hn3, not_false_eq_true, hn5, hn6, hnP, hget_skip, hset_skip, List.append_assoc, hn7, hn10, hnR, hnW, hWR, hn12, hnG, hwl, hi1, hil, wrap_up hil (by omega)]
    exact ⟨(i + 1, List.take i ws ++ .raw (.int .i64 (-5)) :: List.drop (i + 1) ws), ⟨hil, by simp only; rw [setC_length (by omega)]; omega⟩, by simp only; omega, by simp -implicitDefEqProofs only [go_sem, iA], Has.refl _⟩
  obtain rfl : Lw = i := by omega
  have hgl1 : gs.length = Lg := by omega
  simp -implicitDefEqProofs only [go_sem, hn2, hn3, not_false_eq_true, hn5, hn6, hnP, hget_skip, hset_skip, List.append_assoc, hn7, hn10, hnR, hnW, hWR, hn12, hnG, hgl1]
  refine AW.loopP tok (α := Nat × List AV) (fun a => slots 128 [(2, .ptr n2 0), (3, .ptr n3 0), (5, .ptr n5 0), (6, .ptr n6 0), (8, .own nP vP), (12, .ptr n12 0), (15, .own nG vG), (109, iA Lg), (110, iA a.1)]) (fun a => ([(n2, .cells 25 [strsA f.acts, .raw (.int .i64 f.inn), .raw (.int .i64 f.out), .imm 1 (f.sts.map intsA)]), (n3, .cells 25 [strsA g.acts, .raw (.int .i64 g.inn), .raw (.int .i64 g.out), .imm 1 (g.sts.map intsA)]), (n5, .cells 25 [strsA f.acts, .raw (.int .i64 f.inn), .raw (.int .i64 f.out), .imm 1 (f.sts.map intsA)]), (n6, .cells 25 [strsA g.acts, .raw (.int .i64 g.inn), .raw (.int .i64 g.out), .imm 1 (g.sts.map intsA)]), (nP, .row 34 2 vP (ts)), (n7, .cells 25 [.own nA vA, .raw (.int .i64 (togR f g).inn), .raw (.int .i64 (togR f g).out), .own nS vS]), (n10, .cells 25 [.own nA2 vA2, .raw (.int .i64 (otherF f).inn), .raw (.int .i64 (otherF f).out), .own nS2 vS2]), (nR, .row 34 2 vR (ps)), (nW, .row 3 1 vW (ws)), (n12, .cells 53 [.raw (.bool rb), .own nR vR, .own nW vW]), (nG, .row 3 1 vG (a.2))])) (fun a => a.1 ≤ Lg ∧ a.2.length = Lg * 1) (fun a => Lg - a.1) (0, gs) ⟨Nat.zero_le _, hgl⟩ (by simp -implicitDefEqProofs only [go_sem, iA]) (Has.refl _) ?_
  rintro ⟨i, gs⟩ ⟨hi, hgl⟩
  simp only at hi hgl
  simp -implicitDefEqProofs only [go_sem, iA]
  by_cases hil : i < Lg
  · skip
    have hgl : gs.length = Lg := by omega
    have hi1 : i + 1 ≤ Lg := hil
    simp -implicitDefEqProofs only [go_sem, dlt_true hil, hn2, hn3, not_false_eq_true, hn5, hn6, hnP, hget_skip, hset_skip, List.append_assoc, hn7, hn10, hnR, hnW, hWR, hn12, hnG, hgl, hi1, hil, wrap_up hil (by omega)]
    exact ⟨(i + 1, List.take i gs ++ .raw (.int .i64 (-5)) :: List.drop (i + 1) gs), ⟨hil, by simp only; rw [setC_length (by omega)]; omega⟩, by simp only; omega, by simp -implicitDefEqProofs only [go_sem, iA], Has.refl _⟩
  obtain rfl : Lg = i := by omega
  simp -implicitDefEqProofs only [go_sem, hn2, hn3, not_false_eq_true, hn5, hn6, hnP, hget_skip, hset_skip, List.append_assoc, hn7, hn10, hnR, hnW, hWR, hn12, hnG]
  refine opK_pure (Same_ok f f hf hf) rfl (Sub.of_eq (by simp -implicitDefEqProofs only [go_sem, Fa.av, Fa.cells, iA])) ?_
  simp -implicitDefEqProofs only [go_sem, hn2, hn3, not_false_eq_true, hn5, hn6, hnP, hget_skip, hset_skip, List.append_assoc, hn7, hn10, hnR, hnW, hWR, hn12, hnG, beq_self]
  refine opK_pure (Same_ok g g hg hg) rfl (Sub.of_eq (by simp -implicitDefEqProofs only [go_sem, Fa.av, Fa.cells, iA])) ?_
  simp -implicitDefEqProofs only [go_sem, hn2, hn3, not_false_eq_true, hn5, hn6, hnP, hget_skip, hset_skip, List.append_assoc, hn7, hn10, hnR, hnW, hWR, hn12, hnG, beq_self]
  refine opK_pure (awake_ok) rfl (Sub.of_eq (by first | rfl | simp -implicitDefEqProofs only [go_sem])) ?_
  simp -implicitDefEqProofs only [go_sem, hn2, hn3, not_false_eq_true, hn5, hn6, hnP, hget_skip, hset_skip, List.append_assoc, hn7, hn10, hnR, hnW, hWR, hn12, hnG]
  refine fnPost_ret tok ?_
  simp -implicitDefEqProofs only [go_sem, Try.results10]

theorem FaceOwn_fc (xs : List AV) (h : ShAs TT0 [25, 25] xs) : Fc Try.prog 10 xs [] fun x _ => x = abool true := by
  cases h with
  | cons h1 h =>
  cases h with
  | cons h2 h =>
  cases h
  obtain ⟨f, hf, rfl⟩ := shA_face h1
  obtain ⟨g, hg, rfl⟩ := shA_face h2
  exact FaceOwn_ok f g hf hg
end Go.Proofs.Ytebbiciepbbhkaa
