/- Chapter 12, part Tq: two faces together, by the reference: the walk. -/
import Derived.Test.YtebbiciepbbhkaaWalk6
set_option linter.unusedSimpArgs false
set_option linter.unusedVariables false
namespace Go.Proofs.Ytebbiciepbbhkaa
open Go Go.NS

set_option maxRecDepth 4000 in
set_option maxHeartbeats 8000000 in
/-- Together of the reference. -/
theorem TogetherR_ok (f g : Fa) {n : Nat} (hf : f.Val n) (hg : g.Val n) (hfs : f.Small) : Fp Try.prog 22 [f.av, g.av] (.tup [(togF f g n (keepD f g n)).av, .imm 2 (qc (togL f g n (keepD f g n)))]) := by
  have h8 := hf.n8
  obtain ⟨hor, hlt⟩ := out_or hf hg
  have hp8 := pow8 hf.n8
  have hn := hf.len
  have hfew := hf.few
  have hfew2 := hg.few
  have hpos := hf.pos
  have hpos2 := hg.pos
  have hsa := hfs.a
  have a1 := hf.ilt; have a2 := hf.olt; have a3 := hg.ilt; have a4 := hg.olt
  have b1 : f.iN ||| g.iN < 2 ^ n := Nat.or_lt_two_pow a1 a3
  have hii : bit2 .or .i64 f.inn g.inn = ((f.iN ||| g.iN : Nat) : Int) := by rw [hf.inn, hg.inn]; exact bit2_or _ _ (by omega) (by omega)
  have han : bit2 .andNot .i64 ((f.iN ||| g.iN : Nat) : Int) ((f.oN ||| g.oN : Nat) : Int) = ((nAndNot (f.iN ||| g.iN) (f.oN ||| g.oN) : Nat) : Int) := bit2_andNot _ _ (by omega) (by omega)
  have hmul : f.sts.length * g.sts.length ≤ 500 * 500 := Nat.mul_le_mul hf.few hg.few
  obtain ⟨keep, hkeep⟩ : ∃ keep, keep = keepD f g n := ⟨_, rfl⟩
  rw [← hkeep]
  obtain ⟨nf, hnf⟩ : ∃ nf, f.sts.length = nf := ⟨_, rfl⟩
  obtain ⟨ng, hng⟩ : ∃ ng, g.sts.length = ng := ⟨_, rfl⟩
  obtain ⟨N, hN⟩ : ∃ N, N = nf * ng := ⟨_, rfl⟩
  obtain ⟨suc, hsuc⟩ : ∃ suc : Nat → Pr → List It, suc = fun i p => sucs f g keep i p (bits n (ownS f g)) := ⟨_, rfl⟩
  obtain ⟨L, hL⟩ : ∃ L, L = togL f g n keep := ⟨_, rfl⟩
  have hbL : bfs suc (N + 1) 0 [(((0, 0), (-1, 0)) : It)] = L := by rw [hL, hsuc, hN, ← hnf, ← hng]; rfl
  have hlen : ∀ q : List It, (q.map (·.1)).Nodup → (∀ y ∈ q, f.In g y.1) → q.length ≤ N := fun q h1 h2 => by rw [hN, ← hnf, ← hng]; exact in_length h1 h2
  have hNb : N ≤ 500 * 500 := by rw [hN, ← hnf, ← hng]; exact hmul
  obtain ⟨rc, hrc⟩ : ∃ rc : Nat → List AV, rc = fun k => (rowT f g n keep L (L.getD k ((0, 0), (0, 0))).1).map iA := ⟨_, rfl⟩
  refine Fp.of_vc tok Try.func22 rfl (by decide) ?_
  simp -implicitDefEqProofs only [go_sem, Try.ntmps22, Fa.av, Fa.cells, iA, strsA]
  refine newK_intro fun n2 hn2 => ?_
  try simp -implicitDefEqProofs only [hset, rowsH_names, List.map_append, List.map_cons, List.map_nil, List.cons_append, List.nil_append, List.mem_cons, List.mem_append, List.not_mem_nil, or_false, not_or] at hn2
  simp -implicitDefEqProofs only [go_sem]
  refine newK_intro fun n3 hn3 => ?_
  try simp -implicitDefEqProofs only [hset, rowsH_names, List.map_append, List.map_cons, List.map_nil, List.cons_append, List.nil_append, List.mem_cons, List.mem_append, List.not_mem_nil, or_false, not_or] at hn3
  simp -implicitDefEqProofs only [go_sem, hn3, not_false_eq_true, hget_skip, hset_skip, List.append_assoc, rowsH_names, hnf, hng]
  refine newK_intro fun n4 hn4 => ?_
  try simp -implicitDefEqProofs only [hset, rowsH_names, List.map_append, List.map_cons, List.map_nil, List.cons_append, List.nil_append, List.mem_cons, List.mem_append, List.not_mem_nil, or_false, not_or] at hn4
  simp -implicitDefEqProofs only [go_sem, hn3, hn4, not_false_eq_true, hget_skip, hset_skip, List.append_assoc, rowsH_names, hnf, hng]
  refine opK_pure (lost_ok f g hf hg) rfl (Sub.of_eq (by first | rfl | simp -implicitDefEqProofs only [go_sem])) ?_
  simp -implicitDefEqProofs only [go_sem, hn3, hn4, not_false_eq_true, hget_skip, hset_skip, List.append_assoc, rowsH_names, hnf, hng]
  refine AW.draw tok hmix ⟨[], [], [], false⟩ (by kernel_rfl) (Has.of_sub (List.nil_sublist _)) ?_
  simp -implicitDefEqProofs only [go_sem, hn3, hn4, not_false_eq_true, hget_skip, hset_skip, List.append_assoc, rowsH_names, hnf, hng]
  refine opK_appendImm tok rfl rfl T22 rfl T9 (by decide) rfl (by decide) (by simp only [List.length_map, Nat.div_one]; omega) ?_
  simp -implicitDefEqProofs only [go_sem, hn3, hn4, not_false_eq_true, hget_skip, hset_skip, List.append_assoc, rowsH_names, hnf, hng, hor]
  refine newK_intro fun n7 hn7 => ?_
  try simp -implicitDefEqProofs only [hset, rowsH_names, List.map_append, List.map_cons, List.map_nil, List.cons_append, List.nil_append, List.mem_cons, List.mem_append, List.not_mem_nil, or_false, not_or] at hn7
  simp -implicitDefEqProofs only [go_sem, hn3, hn4, hn7, not_false_eq_true, hget_skip, hset_skip, List.append_assoc, rowsH_names, hnf, hng, hii, han]
  refine opK_make tok (n := nf) (zc := [.raw (.slice none 0 0)]) rfl rfl T23 rfl T44 (by decide) rfl rfl (by simp only; omega) (by omega) fun nO vO hnO => ?_
  try simp -implicitDefEqProofs only [hset, rowsH_names, List.map_append, List.map_cons, List.map_nil, List.cons_append, List.nil_append, List.mem_cons, List.mem_append, List.not_mem_nil, or_false, not_or] at hnO
  simp -implicitDefEqProofs only [go_sem, not_false_eq_true, hget_skip, hset_skip, List.append_assoc, rowsH_names, hnf, hng, hn3, hn4, hn7, hnO, zrep_one, ← outC_zero nf (fun _ => 0) (fun _ => 0), outC_length]
  refine AW.loopP tok (α := Nat × (Nat → Nat) × (Nat → Nat)) (fun a => slots 145 [(2, .ptr n2 0), (3, .ptr n3 0), (4, .ptr n4 0), (5, .raw (.slice none 0 0)), (6, mxA nf ng (lostF f g n)), (7, .ptr n7 0), (8, .own nO vO), (42, iA nf), (43, iA a.1)])
    (fun a => [(n2, .cells 25 [.imm 1 (f.acts.map sA), .raw (.int .i64 f.inn), .raw (.int .i64 f.out), .imm 1 (f.sts.map intsA)]), (n3, .cells 25 [.imm 1 (g.acts.map sA), .raw (.int .i64 g.inn), .raw (.int .i64 g.out), .imm 1 (g.sts.map intsA)]), (n4, .cells 25 [.raw (.slice none 0 0), .raw (.int .i64 0), .raw (.int .i64 0), .raw (.slice none 0 0)]), (n7, .cells 25 [.imm 1 (f.acts.map sA), .raw (.int .i64 (nAndNot (f.iN ||| g.iN) (f.oN ||| g.oN) : Nat)), .raw (.int .i64 (f.oN ||| g.oN : Nat)), .raw (.slice none 0 0)]), (nO, .row 44 1 vO (outC nf a.1 a.2.1 a.2.2))] ++ rowsH a.1 3 1 a.2.1 a.2.2 (mxR ng (fun _ _ => .raw (.int .i64 0))))
    (fun a => a.1 ≤ nf ∧ Inj a.1 a.2.1 ∧ (∀ x, x < a.1 → ¬ a.2.1 x = n2) ∧ (∀ x, x < a.1 → ¬ a.2.1 x = n3) ∧ (∀ x, x < a.1 → ¬ a.2.1 x = n4) ∧ (∀ x, x < a.1 → ¬ a.2.1 x = n7) ∧ (∀ x, x < a.1 → ¬ a.2.1 x = nO)) (fun a => nf - a.1) (0, (fun _ => 0), (fun _ => 0))
    ⟨Nat.zero_le _, inj_zero _, fun x h => absurd h (Nat.not_lt_zero x), fun x h => absurd h (Nat.not_lt_zero x), fun x h => absurd h (Nat.not_lt_zero x), fun x h => absurd h (Nat.not_lt_zero x), fun x h => absurd h (Nat.not_lt_zero x)⟩ (by simp -implicitDefEqProofs only [go_sem, iA]) (by rw [rowsH_zero, List.append_nil]; exact Has.refl _) ?_
  rintro ⟨i, ns, vs⟩ ⟨hi, hI, hne2, hne3, hne4, hne7, hneO⟩
  simp only at hi hI hne2 hne3 hne4 hne7 hneO
  simp -implicitDefEqProofs only [go_sem, not_false_eq_true, hget_skip, hset_skip, List.append_assoc, rowsH_names, hnf, hng, hn3, hn4, hn7, hnO, outC_length, iA]
  by_cases hin : i < nf
  · simp -implicitDefEqProofs only [go_sem, dlt_true hin, not_false_eq_true, hget_skip, hset_skip, List.append_assoc, rowsH_names, hnf, hng, hn3, hn4, hn7, hnO]
    refine opK_make tok (n := ng) (zc := [.raw (.int .i64 0)]) rfl rfl T44 rfl T3 (by decide) rfl rfl (by simp only; omega) (by omega) fun nR vR hnR => ?_
    try simp -implicitDefEqProofs only [hset, rowsH_names, List.map_append, List.map_cons, List.map_nil, List.cons_append, List.nil_append, List.mem_cons, List.mem_append, List.not_mem_nil, or_false, not_or] at hnR
    have hin1 : i + 1 ≤ nf := hin
    simp -implicitDefEqProofs only [go_sem, not_false_eq_true, hget_skip, hset_skip, List.append_assoc, rowsH_names, hnf, hng, hn3, hn4, hn7, hnO, hnR, zrep_one, outC_length, hin, hin1, outC_set ns vs nR vR hin, wrap_up hin (by omega)]
    refine ⟨(i + 1, upd ns i nR, upd vs i vR), ⟨hin, inj_snoc hI (by simp only [hnR, not_false_eq_true]), ne_snoc hne2 (by simp only [hnR, not_false_eq_true]), ne_snoc hne3 (by simp only [hnR, not_false_eq_true]), ne_snoc hne4 (by simp only [hnR, not_false_eq_true]), ne_snoc hne7 (by simp only [hnR, not_false_eq_true]), ne_snoc hneO (by simp only [hnR, not_false_eq_true])⟩, by simp only; omega, by simp -implicitDefEqProofs only [go_sem], ?_⟩
    rw [mxR_const ng _ i, rowsH_addM]
    exact Has.refl _
  obtain rfl : nf = i := by omega
  simp -implicitDefEqProofs only [go_sem, not_false_eq_true, hget_skip, hset_skip, List.append_assoc, rowsH_names, hnf, hng, hn3, hn4, hn7, hnO]
  have h0f : 0 < nf := by omega
  have h0g : 0 < ng := by omega
  have h1f : 1 ≤ nf := by omega
  have h1g : 1 ≤ ng := by omega
  have hm0 : upd2 (fun _ _ => AV.raw (.int .i64 0)) 0 0 (.raw (.int .i64 1)) = atF [(((0, 0), (-1, 0)) : It)] := by
    have h1 := atF_snoc (q := []) (z := (((0, 0), (-1, 0)) : It)) (by simp)
    have e : atF [] = fun _ _ => AV.raw (.int .i64 0) := by funext x y; simp [atF, atI]
    rw [e] at h1; exact h1
  simp -implicitDefEqProofs only [go_sem, not_false_eq_true, hget_skip, hset_skip, List.append_assoc, rowsH_names, hnf, hng, hn3, hn4, hn7, hnO, hget_rowsE hI, hget_rows hI, hset_rowsE hI, hset_rows hI, outC_get, outC_length, mxR_get, mxR_length, mxR_set, mxR_set0, hne2, hne3, hne4, hne7, hneO, h0f, h0g, h1f, h1g, hm0]
  refine opK_litOwn tok rfl T28 rfl T34 (by decide) (by simp -implicitDefEqProofs only [go_sem, zrep, List.flatten_cons, List.flatten_nil]; rfl) fun nX vX hnX => ?_
  try simp -implicitDefEqProofs only [hset, rowsH_names, List.map_append, List.map_cons, List.map_nil, List.cons_append, List.nil_append, List.mem_cons, List.mem_append, List.not_mem_nil, or_false, not_or] at hnX
  simp -implicitDefEqProofs only [go_sem, not_false_eq_true, hget_skip, hset_skip, List.append_assoc, rowsH_names, hnf, hng, hn3, hn4, hn7, hnO, hget_rowsE hI, hget_rows hI, hset_rowsE hI, hset_rows hI, outC_get, outC_length, mxR_get, mxR_length, mxR_set, mxR_set0, hne2, hne3, hne4, hne7, hneO, hnX]
  refine AW.adoptIn (sz := 1) (u := 25) (xs := [.imm 1 (f.acts.map sA), .raw (.int .i64 (nAndNot (f.iN ||| g.iN) (f.oN ||| g.oN) : Nat)), .raw (.int .i64 (f.oN ||| g.oN : Nat)), .raw (.slice none 0 0)]) n7 3 44 (by decide) (by simp -implicitDefEqProofs only [go_sem, not_false_eq_true, hget_skip, hset_skip, List.append_assoc, rowsH_names, hnf, hng, hn3, hn4, hn7, hnO, hget_rowsE hI, hget_rows hI, hset_rowsE hI, hset_rows hI, outC_get, outC_length, mxR_get, mxR_length, mxR_set, mxR_set0, hne2, hne3, hne4, hne7, hneO, hnX]) rfl fun nS hnS => ?_
  try simp -implicitDefEqProofs only [hset, rowsH_names, List.map_append, List.map_cons, List.map_nil, List.cons_append, List.nil_append, List.mem_cons, List.mem_append, List.not_mem_nil, or_false, not_or] at hnS
  have hneX : ∀ x, x < nf → ¬ ns x = nX := names_ne (by simp only [hnX, not_false_eq_true])
  have hneS : ∀ x, x < nf → ¬ ns x = nS := names_ne (by simp only [hnS, not_false_eq_true])
  simp -implicitDefEqProofs only [go_sem, not_false_eq_true, hget_skip, hset_skip, List.append_assoc, rowsH_names, hnf, hng, hn3, hn4, hn7, hnO, hget_rowsE hI, hget_rows hI, hset_rowsE hI, hset_rows hI, outC_get, outC_length, mxR_get, mxR_length, mxR_set, mxR_set0, hne2, hne3, hne4, hne7, hneO, hnX, hnS, hneX, hneS, qc_div]
  refine AW.loopP tok (α := Nat × List It × Nat × (Nat → Nat) × (Nat → Nat) × Nat) (fun a => slots 145 [(2, .ptr n2 0), (3, .ptr n3 0), (4, .ptr n4 0), (5, .raw (.slice none 0 0)), (6, mxA nf ng (lostF f g n)), (7, .ptr n7 0), (8, .own nO vO), (10, .own nX a.2.2.1), (11, iA a.1)])
    (fun a => [(n2, .cells 25 [.imm 1 (f.acts.map sA), .raw (.int .i64 f.inn), .raw (.int .i64 f.out), .imm 1 (f.sts.map intsA)]), (n3, .cells 25 [.imm 1 (g.acts.map sA), .raw (.int .i64 g.inn), .raw (.int .i64 g.out), .imm 1 (g.sts.map intsA)]), (n4, .cells 25 [.raw (.slice none 0 0), .raw (.int .i64 0), .raw (.int .i64 0), .raw (.slice none 0 0)]), (n7, .cells 25 [.imm 1 (f.acts.map sA), .raw (.int .i64 (nAndNot (f.iN ||| g.iN) (f.oN ||| g.oN) : Nat)), .raw (.int .i64 (f.oN ||| g.oN : Nat)), .own nS a.2.2.2.2.2]), (nO, .row 44 1 vO (outC nf nf ns vs)), (nX, .row 34 2 a.2.2.1 (qc a.2.1)), (nS, .row 44 1 a.2.2.2.2.2 (ownsC a.1 a.2.2.2.1 a.2.2.2.2.1))] ++ (rowsH nf 3 1 ns vs (mxR ng (atF a.2.1)) ++ rowsH a.1 3 1 a.2.2.2.1 a.2.2.2.2.1 rc))
    (fun a => a.1 ≤ a.2.1.length ∧ bfs suc (N + 1 - a.1) a.1 a.2.1 = L ∧ (a.2.1.map (·.1)).Nodup ∧ (∀ y ∈ a.2.1, f.In g y.1))
    (fun a => N + 1 - a.1) (0, [(((0, 0), (-1, 0)) : It)], vX, (fun _ => 0), (fun _ => 0), 0) ⟨Nat.zero_le _, hbL, by simp, fun y hy => by simp at hy; subst hy; exact ⟨hf.pos, hg.pos⟩⟩ (by simp -implicitDefEqProofs only [go_sem, iA]) (by
      have := has_end [(n2, .cells 25 [.imm 1 (f.acts.map sA), .raw (.int .i64 f.inn), .raw (.int .i64 f.out), .imm 1 (f.sts.map intsA)]), (n3, .cells 25 [.imm 1 (g.acts.map sA), .raw (.int .i64 g.inn), .raw (.int .i64 g.out), .imm 1 (g.sts.map intsA)]), (n4, .cells 25 [.raw (.slice none 0 0), .raw (.int .i64 0), .raw (.int .i64 0), .raw (.slice none 0 0)]), (n7, .cells 25 [.imm 1 (f.acts.map sA), .raw (.int .i64 (nAndNot (f.iN ||| g.iN) (f.oN ||| g.oN) : Nat)), .raw (.int .i64 (f.oN ||| g.oN : Nat)), .own nS 0]), (nO, .row 44 1 vO (outC nf nf ns vs))] (rowsH nf 3 1 ns vs (mxR ng (atF [(((0, 0), (-1, 0)) : It)]))) [(nX, .row 34 2 vX (qc [(((0, 0), (-1, 0)) : It)])), (nS, .row 44 1 0 [])]
      have e0 : qc [(((0, 0), (-1, 0)) : It)] = [.raw (.int .i64 0), .raw (.int .i64 0)] := rfl
      have e1 : ownsC 0 (fun _ => 0) (fun _ => 0) = [] := rfl
      simpa -implicitDefEqProofs only [e0, e1, rowsH_zero, List.append_nil, List.cons_append, List.nil_append, List.append_assoc] using this) ?_
  rintro ⟨i, q, vX, ns2, vs2, vS⟩ ⟨hi, hbfs, hq, hqin⟩
  simp only at hi hbfs hq hqin
  have hql := hlen q hq hqin
  simp -implicitDefEqProofs only [go_sem, not_false_eq_true, hget_skip, hset_skip, List.append_assoc, rowsH_names, hnf, hng, hn3, hn4, hn7, hnO, hget_rowsE hI, hget_rows hI, hset_rowsE hI, hset_rows hI, outC_get, outC_length, mxR_get, mxR_length, mxR_set, mxR_set0, hne2, hne3, hne4, hne7, hneO, hnX, hnS, hneX, hneS, qc_div, iA]
  by_cases hil : i < q.length
  rotate_left
  · rw [bfs_stop _ (by omega)] at hbfs
    subst hbfs
    have hiq : i = q.length := by omega
    subst hiq
    have e1 : decide ((q.length : Int) < (q.length : Int)) = false := by simp
    simp -implicitDefEqProofs only [go_sem, e1, not_false_eq_true, hget_skip, hset_skip, List.append_assoc, rowsH_names, hnf, hng, hn3, hn4, hn7, hnO, hget_rowsE hI, hget_rows hI, hset_rowsE hI, hset_rows hI, outC_get, outC_length, mxR_get, mxR_length, mxR_set, mxR_set0, hne2, hne3, hne4, hne7, hneO, hnX, hnS, hneX, hneS, qc_div]
    have hst2 : (List.range q.length).map (fun k => AV.imm 1 (rc k)) = (togF f g n keep).sts.map intsA := by
      simp only [togF, ← hL, List.map_map]
      refine List.ext_getElem (by simp) fun k q1 q2 => ?_
      have hkl : k < q.length := by simpa using q1
      simp only [List.getElem_map, List.getElem_range, Function.comp, hrc, intsA, List.getD, List.getElem?_eq_getElem hkl, Option.getD_some]
    have hfzS : Fzs ((nX, AObj.row 34 2 vX (qc q)) :: (nS, .row 44 1 vS (ownsC q.length ns2 vs2)) :: rowsH q.length 3 1 ns2 vs2 rc) (ownsC q.length ns2 vs2) ((List.range q.length).map fun k => AV.imm 1 (rc k)) :=
      Fzs.map fun k hk => Fz.rowS (t := 3) (List.mem_cons_of_mem _ (List.mem_cons_of_mem _ (List.mem_map.2 ⟨k, hk, rfl⟩))) (Fzs.refl _)
    have hfX : Fz ((nX, AObj.row 34 2 vX (qc q)) :: (nS, .row 44 1 vS (ownsC q.length ns2 vs2)) :: rowsH q.length 3 1 ns2 vs2 rc) (.own nX vX) (.imm 2 (qc q)) := Fz.rowS (t := 34) List.mem_cons_self (Fzs.refl _)
    refine fnPost_has (H2 := ((n4, .cells 25 [.imm 1 (f.acts.map sA), .raw (.int .i64 (nAndNot (f.iN ||| g.iN) (f.oN ||| g.oN) : Nat)), .raw (.int .i64 (f.oN ||| g.oN : Nat)), .own nS vS]) :: (nX, AObj.row 34 2 vX (qc q)) :: (nS, .row 44 1 vS (ownsC q.length ns2 vs2)) :: rowsH q.length 3 1 ns2 vs2 rc)) (Has.of_sub (List.Sublist.cons _ (List.Sublist.cons _ (List.Sublist.cons_cons _ (List.Sublist.cons _ (List.Sublist.cons _ (List.Sublist.cons_cons _ (List.Sublist.cons_cons _ (List.sublist_append_right _ _))))))))) ?_
    refine fnPost_fz ((nX, AObj.row 34 2 vX (qc q)) :: (nS, .row 44 1 vS (ownsC q.length ns2 vs2)) :: rowsH q.length 3 1 ns2 vs2 rc) [(n4, .cells 25 [.imm 1 (f.acts.map sA), .raw (.int .i64 (nAndNot (f.iN ||| g.iN) (f.oN ||| g.oN) : Nat)), .raw (.int .i64 (f.oN ||| g.oN : Nat)), .own nS vS])] (t' := slots 145 [(4, .ptr n4 0), (5, .imm 2 (qc q))]) (B' := [(n4, .cells 25 [.imm 1 (f.acts.map sA), .raw (.int .i64 (nAndNot (f.iN ||| g.iN) (f.oN ||| g.oN) : Nat)), .raw (.int .i64 (f.oN ||| g.oN : Nat)), .imm 1 ((List.range q.length).map fun k => AV.imm 1 (rc k))])]) List.perm_append_comm ?_
      (FzH.cons (.cells (Fzs.cons (Fz.refl _) (Fzs.cons (Fz.refl _) (Fzs.cons (Fz.refl _) (Fzs.cons (Fz.rowS (t := 44) (List.mem_cons_of_mem _ List.mem_cons_self) hfzS) Fzs.nil))))) FzH.nil) ?_
    · simp -implicitDefEqProofs only [go_sem]
      repeat (first | exact Fzs.nil | refine Fzs.cons hfX ?_ | refine Fzs.cons (Fz.refl _) ?_ | refine Fzs.cons (Fz.junk _) ?_)
    rw [hst2]
    simp -implicitDefEqProofs only [go_sem]
    refine fnPost_ret tok ?_
    simp -implicitDefEqProofs only [go_sem, Try.results22, togF, ← hL]
  obtain ⟨p, hpe⟩ : ∃ p : Pr, p = q[i].1 := ⟨_, rfl⟩
  have hp : f.In g p := hpe ▸ hqin _ (List.getElem_mem hil)
  have hx := hp.1
  have hy := hp.2
  have hs0 : suc i p = sucs f g keep i p (List.range n) := by rw [hsuc, sucs_range hf hg]
  have hfu : N + 1 - i = (N - i) + 1 := by omega
  rw [hfu, bfs_step _ hil, ← hpe, hs0] at hbfs
  have hLq : pushAll q (sucs f g keep i p (List.range n)) <+: L := hbfs ▸ bfs_prefix _ _ _ _
  have hLi : i < L.length := Nat.lt_of_lt_of_le hil ((pushAll_prefix _ q).trans hLq).length_le
  have hLp : L[i].1 = p := by rw [← ((pushAll_prefix _ q).trans hLq).getElem hil, hpe]
  simp -implicitDefEqProofs only [go_sem, dlt_true hil, not_false_eq_true, hget_skip, hset_skip, List.append_assoc, rowsH_names, hnf, hng, hn3, hn4, hn7, hnO, hget_rowsE hI, hget_rows hI, hset_rowsE hI, hset_rows hI, outC_get, outC_length, mxR_get, mxR_length, mxR_set, mxR_set0, hne2, hne3, hne4, hne7, hneO, hnX, hnS, hneX, hneS, qc_div, hn]
  refine AW.adopt 12 3 (sz := 1) (by decide) rfl fun nY hnY => ?_
  try simp -implicitDefEqProofs only [hset, rowsH_names, List.map_append, List.map_cons, List.map_nil, List.cons_append, List.nil_append, List.mem_cons, List.mem_append, List.not_mem_nil, or_false, not_or] at hnY
  have hneY : ∀ x, x < nf → ¬ ns x = nY := names_ne (by simp only [hnY, not_false_eq_true])
  simp -implicitDefEqProofs only [go_sem, not_false_eq_true, hget_skip, hset_skip, List.append_assoc, rowsH_names, hnf, hng, hn3, hn4, hn7, hnO, hget_rowsE hI, hget_rows hI, hset_rowsE hI, hset_rows hI, outC_get, outC_length, mxR_get, mxR_length, mxR_set, mxR_set0, hne2, hne3, hne4, hne7, hneO, hnX, hnS, hneX, hneS, qc_div, hnY, hneY]
  refine AW.loopP tok (α := Nat × List It × Nat × Nat) (fun a => slots 145 [(2, .ptr n2 0), (3, .ptr n3 0), (4, .ptr n4 0), (5, .raw (.slice none 0 0)), (6, mxA nf ng (lostF f g n)), (7, .ptr n7 0), (8, .own nO vO), (10, .own nX a.2.2.1), (11, iA i), (12, .own nY a.2.2.2), (68, iA n), (69, iA a.1)])
    (fun a => [(n2, .cells 25 [.imm 1 (f.acts.map sA), .raw (.int .i64 f.inn), .raw (.int .i64 f.out), .imm 1 (f.sts.map intsA)]), (n3, .cells 25 [.imm 1 (g.acts.map sA), .raw (.int .i64 g.inn), .raw (.int .i64 g.out), .imm 1 (g.sts.map intsA)]), (n4, .cells 25 [.raw (.slice none 0 0), .raw (.int .i64 0), .raw (.int .i64 0), .raw (.slice none 0 0)]), (n7, .cells 25 [.imm 1 (f.acts.map sA), .raw (.int .i64 (nAndNot (f.iN ||| g.iN) (f.oN ||| g.oN) : Nat)), .raw (.int .i64 (f.oN ||| g.oN : Nat)), .own nS vS]), (nO, .row 44 1 vO (outC nf nf ns vs)), (nX, .row 34 2 a.2.2.1 (qc a.2.1)), (nS, .row 44 1 vS (ownsC i ns2 vs2)), (nY, .row 3 1 a.2.2.2 (((rowT f g n keep L p).take a.1).map iA))] ++ (rowsH nf 3 1 ns vs (mxR ng (atF a.2.1)) ++ rowsH i 3 1 ns2 vs2 rc))
    (fun a => a.1 ≤ n ∧ a.2.1 = pushAll q (sucs f g keep i p (List.range a.1)))
    (fun a => n - a.1) (0, q, vX, 0) ⟨Nat.zero_le _, rfl⟩ (by simp -implicitDefEqProofs only [go_sem, iA]) (by
      have := has_end [(n2, .cells 25 [.imm 1 (f.acts.map sA), .raw (.int .i64 f.inn), .raw (.int .i64 f.out), .imm 1 (f.sts.map intsA)]), (n3, .cells 25 [.imm 1 (g.acts.map sA), .raw (.int .i64 g.inn), .raw (.int .i64 g.out), .imm 1 (g.sts.map intsA)]), (n4, .cells 25 [.raw (.slice none 0 0), .raw (.int .i64 0), .raw (.int .i64 0), .raw (.slice none 0 0)]), (n7, .cells 25 [.imm 1 (f.acts.map sA), .raw (.int .i64 (nAndNot (f.iN ||| g.iN) (f.oN ||| g.oN) : Nat)), .raw (.int .i64 (f.oN ||| g.oN : Nat)), .own nS vS]), (nO, .row 44 1 vO (outC nf nf ns vs)), (nX, .row 34 2 vX (qc q)), (nS, .row 44 1 vS (ownsC i ns2 vs2))] (rowsH nf 3 1 ns vs (mxR ng (atF q)) ++ rowsH i 3 1 ns2 vs2 rc) [(nY, .row 3 1 0 [])]
      simpa -implicitDefEqProofs only [List.take_zero, List.map_nil, List.append_nil, List.cons_append, List.nil_append, List.append_assoc] using this) ?_
  rintro ⟨a, q2, v2, vY⟩ ⟨ha, hq2⟩
  simp only at ha hq2
  have hq2n : (q2.map (·.1)).Nodup := hq2 ▸ pushAll_nodup _ _ hq
  have hpre2 : q <+: q2 := hq2 ▸ pushAll_prefix _ _
  have hq2in : ∀ z ∈ q2, f.In g z.1 := fun z hz => by
    rw [hq2] at hz
    rcases pushAll_mem hz with hz | hz
    · exact hqin z hz
    · simp only [sucs, List.mem_filterMap] at hz
      obtain ⟨b, h1, h2⟩ := hz
      exact suc1_in hf hg hp (Nat.lt_of_lt_of_le (List.mem_range.1 h1) ha) h2
  have hq2l := hlen q2 hq2n hq2in
  have hp2le := hpre2.length_le
  have hrl : (rowT f g n keep L p).length = n := by simp [rowT]
  have htl : ((rowT f g n keep L p).take a).length = a := by rw [List.length_take, hrl]; omega
  simp -implicitDefEqProofs only [go_sem, not_false_eq_true, hget_skip, hset_skip, List.append_assoc, rowsH_names, hnf, hng, hn3, hn4, hn7, hnO, hget_rowsE hI, hget_rows hI, hset_rowsE hI, hset_rows hI, outC_get, outC_length, mxR_get, mxR_length, mxR_set, mxR_set0, hne2, hne3, hne4, hne7, hneO, hnX, hnS, hneX, hneS, qc_div, hnY, hneY, iA]
  by_cases han : a < n
  rotate_left
  · obtain rfl : n = a := by omega
    have e1 : decide ((n : Int) < (n : Int)) = false := by simp
    simp -implicitDefEqProofs only [go_sem, e1, not_false_eq_true, hget_skip, hset_skip, List.append_assoc, rowsH_names, hnf, hng, hn3, hn4, hn7, hnO, hget_rowsE hI, hget_rows hI, hset_rowsE hI, hset_rows hI, outC_get, outC_length, mxR_get, mxR_length, mxR_set, mxR_set0, hne2, hne3, hne4, hne7, hneO, hnX, hnS, hneX, hneS, qc_div, hnY, hneY]
    refine opK_lit tok T23 rfl T44 (by decide) (by simp -implicitDefEqProofs only [go_sem, zrep, List.flatten_cons, List.flatten_nil]; rfl) ?_
    simp -implicitDefEqProofs only [go_sem, not_false_eq_true, hget_skip, hset_skip, List.append_assoc, rowsH_names, hnf, hng, hn3, hn4, hn7, hnO, hget_rowsE hI, hget_rows hI, hset_rowsE hI, hset_rows hI, outC_get, outC_length, mxR_get, mxR_length, mxR_set, mxR_set0, hne2, hne3, hne4, hne7, hneO, hnX, hnS, hneX, hneS, qc_div, hnY, hneY]
    refine opK_append tok rfl rfl (by simp -implicitDefEqProofs only [go_sem, not_false_eq_true, hget_skip, hset_skip, List.append_assoc, rowsH_names, hnf, hng, hn3, hn4, hn7, hnO, hget_rowsE hI, hget_rows hI, hset_rowsE hI, hset_rows hI, outC_get, outC_length, mxR_get, mxR_length, mxR_set, mxR_set0, hne2, hne3, hne4, hne7, hneO, hnX, hnS, hneX, hneS, qc_div, hnY, hneY]; rfl) rfl T23 rfl T44 rfl (by decide) (by simp only [ownsC_length, Nat.div_one, List.length_cons, List.length_nil]; omega) fun v3 => ?_
    simp -implicitDefEqProofs only [go_sem, not_false_eq_true, hget_skip, hset_skip, List.append_assoc, rowsH_names, hnf, hng, hn3, hn4, hn7, hnO, hget_rowsE hI, hget_rows hI, hset_rowsE hI, hset_rows hI, outC_get, outC_length, mxR_get, mxR_length, mxR_set, mxR_set0, hne2, hne3, hne4, hne7, hneO, hnX, hnS, hneX, hneS, qc_div, hnY, hneY, ownsC_snoc, wrap_up hil (by omega)]
    have hfu2 : N + 1 - (i + 1) = N - i := by omega
    have hrow : (((rowT f g n keep L p).take n).map iA) = rc i := by
      rw [List.take_of_length_le (by omega), hrc]
      simp only [List.getD, List.getElem?_eq_getElem hLi, Option.getD_some, hLp]
    refine ⟨(i + 1, q2, v2, upd ns2 i nY, upd vs2 i vY, v3), ⟨by simp only; omega, by simp only; rw [hfu2, hq2]; exact hbfs, hq2n, hq2in⟩, by simp only; omega, by simp -implicitDefEqProofs only [go_sem], ?_⟩
    have e2 : rowsH (i + 1) 3 1 (upd ns2 i nY) (upd vs2 i vY) rc = rowsH i 3 1 ns2 vs2 rc ++ [(nY, .row 3 1 vY (rc i))] := by
      rw [rowsH_add]
      exact rowsH_congr fun k hk => ⟨rfl, rfl, by by_cases e : k = i; (subst e; rw [upd_same]); rw [upd_ne e]⟩
    have := has_end [(n2, .cells 25 [.imm 1 (f.acts.map sA), .raw (.int .i64 f.inn), .raw (.int .i64 f.out), .imm 1 (f.sts.map intsA)]), (n3, .cells 25 [.imm 1 (g.acts.map sA), .raw (.int .i64 g.inn), .raw (.int .i64 g.out), .imm 1 (g.sts.map intsA)]), (n4, .cells 25 [.raw (.slice none 0 0), .raw (.int .i64 0), .raw (.int .i64 0), .raw (.slice none 0 0)]), (n7, .cells 25 [.imm 1 (f.acts.map sA), .raw (.int .i64 (nAndNot (f.iN ||| g.iN) (f.oN ||| g.oN) : Nat)), .raw (.int .i64 (f.oN ||| g.oN : Nat)), .own nS v3]), (nO, .row 44 1 vO (outC nf nf ns vs)), (nX, .row 34 2 v2 (qc q2)), (nS, .row 44 1 v3 (ownsC (i + 1) (upd ns2 i nY) (upd vs2 i vY)))] [(nY, .row 3 1 vY (rc i))] (rowsH nf 3 1 ns vs (mxR ng (atF q2)) ++ rowsH i 3 1 ns2 vs2 rc)
    simp only [e2, hrow]
    simpa -implicitDefEqProofs only [List.cons_append, List.nil_append, List.append_assoc] using this
  have eg : ((qc q2).drop (i * 2)).take 2 = [.raw (.int .i64 p.1), .raw (.int .i64 p.2)] := by
    rw [qc_get (Nat.lt_of_lt_of_le hil hp2le), ← hpre2.getElem hil, ← hpe]; rfl
  have el : i * 2 + 2 ≤ (qc q2).length := by rw [qc_length]; omega
  have el2 : i * 2 < (qc q2).length := by omega
  simp -implicitDefEqProofs only [go_sem, dlt_true han, not_false_eq_true, hget_skip, hset_skip, List.append_assoc, rowsH_names, hnf, hng, hn3, hn4, hn7, hnO, hget_rowsE hI, hget_rows hI, hset_rowsE hI, hset_rows hI, outC_get, outC_length, mxR_get, mxR_length, mxR_set, mxR_set0, hne2, hne3, hne4, hne7, hneO, hnX, hnS, hneX, hneS, qc_div, hnY, hneY]
  refine AW.draw tok hmix ⟨[], [], [], false⟩ (by kernel_rfl) (Has.of_sub (List.nil_sublist _)) ?_
  simp -implicitDefEqProofs only [go_sem, not_false_eq_true, hget_skip, hset_skip, List.append_assoc, rowsH_names, hnf, hng, hn3, hn4, hn7, hnO, hget_rowsE hI, hget_rows hI, hset_rowsE hI, hset_rows hI, outC_get, outC_length, mxR_get, mxR_length, mxR_set, mxR_set0, hne2, hne3, hne4, hne7, hneO, hnX, hnS, hneX, hneS, qc_div, hnY, hneY, eg, el, el2]
  refine opK_pure (stepR_ok f g p.1 p.2 a hx hy (by rw [hf.row _ hx]; exact han) (by rw [hg.row _ hy]; exact han)) rfl (Sub.of_eq (by first | rfl | simp -implicitDefEqProofs only [go_sem])) ?_
  simp -implicitDefEqProofs only [go_sem, pairA, iA, stepR_eq hf hg p.1 p.2 han]
  refine newK_intro fun n14 hn14 => ?_
  try simp -implicitDefEqProofs only [hset, rowsH_names, List.map_append, List.map_cons, List.map_nil, List.cons_append, List.nil_append, List.mem_cons, List.mem_append, List.not_mem_nil, or_false, not_or] at hn14
  have hne14 : ∀ x, x < nf → ¬ ns x = n14 := names_ne (by simp only [hn14, not_false_eq_true])
  simp -implicitDefEqProofs only [go_sem, not_false_eq_true, hget_skip, hset_skip, List.append_assoc, rowsH_names, hnf, hng, hn3, hn4, hn7, hnO, hget_rowsE hI, hget_rows hI, hset_rowsE hI, hset_rows hI, outC_get, outC_length, mxR_get, mxR_length, mxR_set, mxR_set0, hne2, hne3, hne4, hne7, hneO, hnX, hnS, hneX, hneS, qc_div, hnY, hneY, hn14, hne14]
  refine AW.draw tok hmix ⟨[], [], [], false⟩ (by kernel_rfl) (Has.of_sub (List.nil_sublist _)) ?_
  have hrt := rowT_get (f := f) (g := g) (keep := keep) (L := L) (p := p) han
  have hsnoc : sucs f g keep i p (List.range (a + 1)) = sucs f g keep i p (List.range a) ++ sucs f g keep i p [a] := by
    rw [List.range_succ]; simp [sucs, List.filterMap_append]
  have hnext : ∀ (q3 : List It) (v3 vZ : Nat) (c : List AV) (o : AObj), Has ([(n2, .cells 25 [.imm 1 (f.acts.map sA), .raw (.int .i64 f.inn), .raw (.int .i64 f.out), .imm 1 (f.sts.map intsA)]), (n3, .cells 25 [.imm 1 (g.acts.map sA), .raw (.int .i64 g.inn), .raw (.int .i64 g.out), .imm 1 (g.sts.map intsA)]), (n4, .cells 25 [.raw (.slice none 0 0), .raw (.int .i64 0), .raw (.int .i64 0), .raw (.slice none 0 0)]), (n7, .cells 25 [.imm 1 (f.acts.map sA), .raw (.int .i64 (nAndNot (f.iN ||| g.iN) (f.oN ||| g.oN) : Nat)), .raw (.int .i64 (f.oN ||| g.oN : Nat)), .own nS vS]), (nO, .row 44 1 vO (outC nf nf ns vs)), (nX, .row 34 2 v3 (qc q3)), (nS, .row 44 1 vS (ownsC i ns2 vs2)), (nY, .row 3 1 vZ c)] ++ (rowsH nf 3 1 ns vs (mxR ng (atF q3)) ++ rowsH i 3 1 ns2 vs2 rc)) ([(n2, .cells 25 [.imm 1 (f.acts.map sA), .raw (.int .i64 f.inn), .raw (.int .i64 f.out), .imm 1 (f.sts.map intsA)]), (n3, .cells 25 [.imm 1 (g.acts.map sA), .raw (.int .i64 g.inn), .raw (.int .i64 g.out), .imm 1 (g.sts.map intsA)]), (n4, .cells 25 [.raw (.slice none 0 0), .raw (.int .i64 0), .raw (.int .i64 0), .raw (.slice none 0 0)]), (n7, .cells 25 [.imm 1 (f.acts.map sA), .raw (.int .i64 (nAndNot (f.iN ||| g.iN) (f.oN ||| g.oN) : Nat)), .raw (.int .i64 (f.oN ||| g.oN : Nat)), .own nS vS]), (nO, .row 44 1 vO (outC nf nf ns vs)), (nX, .row 34 2 v3 (qc q3)), (nS, .row 44 1 vS (ownsC i ns2 vs2)), (nY, .row 3 1 vZ c)] ++ ((rowsH nf 3 1 ns vs (mxR ng (atF q3)) ++ rowsH i 3 1 ns2 vs2 rc) ++ [(n14, o)])) := fun q3 v3 vZ c o =>
    has_left [(n2, .cells 25 [.imm 1 (f.acts.map sA), .raw (.int .i64 f.inn), .raw (.int .i64 f.out), .imm 1 (f.sts.map intsA)]), (n3, .cells 25 [.imm 1 (g.acts.map sA), .raw (.int .i64 g.inn), .raw (.int .i64 g.out), .imm 1 (g.sts.map intsA)]), (n4, .cells 25 [.raw (.slice none 0 0), .raw (.int .i64 0), .raw (.int .i64 0), .raw (.slice none 0 0)]), (n7, .cells 25 [.imm 1 (f.acts.map sA), .raw (.int .i64 (nAndNot (f.iN ||| g.iN) (f.oN ||| g.oN) : Nat)), .raw (.int .i64 (f.oN ||| g.oN : Nat)), .own nS vS]), (nO, .row 44 1 vO (outC nf nf ns vs)), (nX, .row 34 2 v3 (qc q3)), (nS, .row 44 1 vS (ownsC i ns2 vs2)), (nY, .row 3 1 vZ c)] (rowsH nf 3 1 ns vs (mxR ng (atF q3)) ++ rowsH i 3 1 ns2 vs2 rc) [(n14, o)]
  cases hst : stepN f g p a with
  | none =>
    simp only [hst] at hrt
    have hrow : (((rowT f g n keep L p).take a).map iA) ++ [.raw (.int .i64 (-1))] = ((rowT f g n keep L p).take (a + 1)).map iA := by rw [hrt, List.map_append]; rfl
    simp -implicitDefEqProofs only [go_sem, stepN_none hst, not_false_eq_true, hget_skip, hset_skip, List.append_assoc, rowsH_names, hnf, hng, hn3, hn4, hn7, hnO, hget_rowsE hI, hget_rows hI, hset_rowsE hI, hset_rows hI, outC_get, outC_length, mxR_get, mxR_length, mxR_set, mxR_set0, hne2, hne3, hne4, hne7, hneO, hnX, hnS, hneX, hneS, qc_div, hnY, hneY, hn14, hne14]
    refine opK_lit tok T44 rfl T3 (by decide) (by simp -implicitDefEqProofs only [go_sem, zrep, List.flatten_cons, List.flatten_nil]; rfl) ?_
    simp -implicitDefEqProofs only [go_sem, not_false_eq_true, hget_skip, hset_skip, List.append_assoc, rowsH_names, hnf, hng, hn3, hn4, hn7, hnO, hget_rowsE hI, hget_rows hI, hset_rowsE hI, hset_rows hI, outC_get, outC_length, mxR_get, mxR_length, mxR_set, mxR_set0, hne2, hne3, hne4, hne7, hneO, hnX, hnS, hneX, hneS, qc_div, hnY, hneY, hn14, hne14]
    refine opK_append tok rfl rfl (by simp -implicitDefEqProofs only [go_sem, not_false_eq_true, hget_skip, hset_skip, List.append_assoc, rowsH_names, hnf, hng, hn3, hn4, hn7, hnO, hget_rowsE hI, hget_rows hI, hset_rowsE hI, hset_rows hI, outC_get, outC_length, mxR_get, mxR_length, mxR_set, mxR_set0, hne2, hne3, hne4, hne7, hneO, hnX, hnS, hneX, hneS, qc_div, hnY, hneY, hn14, hne14]; rfl) rfl T44 rfl T3 rfl (by decide) (by simp only [List.length_map, htl, Nat.div_one, List.length_cons, List.length_nil]; omega) fun v5 => ?_
    simp -implicitDefEqProofs only [go_sem, not_false_eq_true, hget_skip, hset_skip, List.append_assoc, rowsH_names, hnf, hng, hn3, hn4, hn7, hnO, hget_rowsE hI, hget_rows hI, hset_rowsE hI, hset_rows hI, outC_get, outC_length, mxR_get, mxR_length, mxR_set, mxR_set0, hne2, hne3, hne4, hne7, hneO, hnX, hnS, hneX, hneS, qc_div, hnY, hneY, hn14, hne14, hrow, wrap_up han (by omega)]
    refine ⟨(a + 1, q2, v2, v5), ⟨han, ?_⟩, by simp only; omega, by simp -implicitDefEqProofs only [go_sem], ?_⟩
    · simp only [hsnoc, pushAll_append, ← hq2]
      simp [sucs, suc1, hst, pushAll]
    · have := hnext q2 v2 v5 (((rowT f g n keep L p).take (a + 1)).map iA) (.cells 34 [.raw (.int .i64 (stepI f g p.1 p.2 a).1), .raw (.int .i64 (stepI f g p.1 p.2 a).2)])
      simpa -implicitDefEqProofs only [List.cons_append, List.nil_append, List.append_assoc] using this
  | some tq =>
    obtain ⟨hB, hIn, hI2⟩ := stepN_some hf hg hp han hst
    have hi1 := hIn.1
    have hi2 := hIn.2
    rw [hnf] at hi1
    rw [hng] at hi2
    have hi3 : tq.1 + 1 ≤ nf := hi1
    have hi4 : tq.2 + 1 ≤ ng := hi2
    have eL : ((List.range nf).map fun x => AV.imm 1 (mxR ng (lostF f g n) x))[tq.1]? = some (.imm 1 (mxR ng (lostF f g n) tq.1)) := by simp [hi1]
    have hkd : keep tq = !lostD f g n (tq.1, tq.2) := by rw [hkeep]; rfl
    simp -implicitDefEqProofs only [go_sem, hB, hI2, not_false_eq_true, hget_skip, hset_skip, List.append_assoc, rowsH_names, hnf, hng, hn3, hn4, hn7, hnO, hget_rowsE hI, hget_rows hI, hset_rowsE hI, hset_rows hI, outC_get, outC_length, mxR_get, mxR_length, mxR_set, mxR_set0, hne2, hne3, hne4, hne7, hneO, hnX, hnS, hneX, hneS, qc_div, hnY, hneY, hn14, hne14, mxA, List.length_range, hi1, hi2, eL, lostF]
    simp only [hst] at hrt
    cases hk : lostD f g n (tq.1, tq.2) with
    | true =>
      have hkt : keep tq = false := by rw [hkd, hk]; rfl
      have hrow : (((rowT f g n keep L p).take a).map iA) ++ [.raw (.int .i64 (-1))] = ((rowT f g n keep L p).take (a + 1)).map iA := by rw [hrt, List.map_append, hkt]; rfl
      simp -implicitDefEqProofs only [go_sem, not_false_eq_true, hget_skip, hset_skip, List.append_assoc, rowsH_names, hnf, hng, hn3, hn4, hn7, hnO, hget_rowsE hI, hget_rows hI, hset_rowsE hI, hset_rows hI, outC_get, outC_length, mxR_get, mxR_length, mxR_set, mxR_set0, hne2, hne3, hne4, hne7, hneO, hnX, hnS, hneX, hneS, qc_div, hnY, hneY, hn14, hne14]
      refine opK_lit tok T44 rfl T3 (by decide) (by simp -implicitDefEqProofs only [go_sem, zrep, List.flatten_cons, List.flatten_nil]; rfl) ?_
      simp -implicitDefEqProofs only [go_sem, not_false_eq_true, hget_skip, hset_skip, List.append_assoc, rowsH_names, hnf, hng, hn3, hn4, hn7, hnO, hget_rowsE hI, hget_rows hI, hset_rowsE hI, hset_rows hI, outC_get, outC_length, mxR_get, mxR_length, mxR_set, mxR_set0, hne2, hne3, hne4, hne7, hneO, hnX, hnS, hneX, hneS, qc_div, hnY, hneY, hn14, hne14]
      refine opK_append tok rfl rfl (by simp -implicitDefEqProofs only [go_sem, not_false_eq_true, hget_skip, hset_skip, List.append_assoc, rowsH_names, hnf, hng, hn3, hn4, hn7, hnO, hget_rowsE hI, hget_rows hI, hset_rowsE hI, hset_rows hI, outC_get, outC_length, mxR_get, mxR_length, mxR_set, mxR_set0, hne2, hne3, hne4, hne7, hneO, hnX, hnS, hneX, hneS, qc_div, hnY, hneY, hn14, hne14]; rfl) rfl T44 rfl T3 rfl (by decide) (by simp only [List.length_map, htl, Nat.div_one, List.length_cons, List.length_nil]; omega) fun v5 => ?_
      simp -implicitDefEqProofs only [go_sem, not_false_eq_true, hget_skip, hset_skip, List.append_assoc, rowsH_names, hnf, hng, hn3, hn4, hn7, hnO, hget_rowsE hI, hget_rows hI, hset_rowsE hI, hset_rows hI, outC_get, outC_length, mxR_get, mxR_length, mxR_set, mxR_set0, hne2, hne3, hne4, hne7, hneO, hnX, hnS, hneX, hneS, qc_div, hnY, hneY, hn14, hne14, hrow, wrap_up han (by omega)]
      refine ⟨(a + 1, q2, v2, v5), ⟨han, ?_⟩, by simp only; omega, by simp -implicitDefEqProofs only [go_sem], ?_⟩
      · simp only [hsnoc, pushAll_append, ← hq2]
        simp [sucs, suc1, hst, pushAll, hkt]
      · have := hnext q2 v2 v5 (((rowT f g n keep L p).take (a + 1)).map iA) (.cells 34 [.raw (.int .i64 tq.1), .raw (.int .i64 tq.2)])
        simpa -implicitDefEqProofs only [List.cons_append, List.nil_append, List.append_assoc] using this
    | false =>
      have hkt : keep tq = true := by rw [hkd, hk]; rfl
      rw [if_pos hkt] at hrt
      simp -implicitDefEqProofs only [go_sem, not_false_eq_true, hget_skip, hset_skip, List.append_assoc, rowsH_names, hnf, hng, hn3, hn4, hn7, hnO, hget_rowsE hI, hget_rows hI, hset_rowsE hI, hset_rows hI, outC_get, outC_length, mxR_get, mxR_length, mxR_set, mxR_set0, hne2, hne3, hne4, hne7, hneO, hnX, hnS, hneX, hneS, qc_div, hnY, hneY, hn14, hne14]
      refine AW.draw tok hmix ⟨[], [], [], false⟩ (by kernel_rfl) (Has.of_sub (List.nil_sublist _)) ?_
      by_cases hs : tq ∈ q2.map (·.1)
      · have hat : atI q2 tq.1 tq.2 = (((q2.map (·.1)).idxOf tq : Nat) : Int) + 1 := atI_mem hs
        have hne0 : ¬ ((((q2.map (·.1)).idxOf tq : Nat) : Int) + 1 = 0) := by omega
        have hix : (q2.map (·.1)).idxOf tq < q2.length := by have := List.idxOf_lt_length_iff.2 hs; simpa using this
        have hw1 : IntKind.i64.wrap ((((q2.map (·.1)).idxOf tq : Nat) : Int) + 1 - 1) = (((q2.map (·.1)).idxOf tq : Nat) : Int) := by rw [IntWalk.i64_in _ (by omega)]; omega
        have hq3 : q2 = pushAll q (sucs f g keep i p (List.range (a + 1))) := by
          rw [hsnoc, pushAll_append, ← hq2]
          have e : sucs f g keep i p [a] = [(tq, (((i : Nat) : Int), (a : Int)))] := by simp [sucs, suc1, hst, hkt]
          rw [e, pushAll_cons, pushAll_nil, push_old hs]
        have hqL : q2 <+: L := by
          rw [hq3]
          have h1 := sucs_take f g keep i p q (List.range n) (a + 1)
          have h2 : (List.range n).take (a + 1) = List.range (a + 1) := by rw [List.take_range]; congr 1; omega
          rw [h2] at h1; exact h1.trans hLq
        have hrow : (((rowT f g n keep L p).take a).map iA) ++ [.raw (.int .i64 (((q2.map (·.1)).idxOf tq : Nat) : Int))] = ((rowT f g n keep L p).take (a + 1)).map iA := by rw [hrt, List.map_append, idxOf_pre hqL hs]; rfl
        simp -implicitDefEqProofs only [go_sem, not_false_eq_true, hget_skip, hset_skip, List.append_assoc, rowsH_names, hnf, hng, hn3, hn4, hn7, hnO, hget_rowsE hI, hget_rows hI, hset_rowsE hI, hset_rows hI, outC_get, outC_length, mxR_get, mxR_length, mxR_set, mxR_set0, hne2, hne3, hne4, hne7, hneO, hnX, hnS, hneX, hneS, qc_div, hnY, hneY, hn14, hne14, hi1, hi2, hi3, hi4, atF, hat, hne0, decide_false]
        refine AW.draw tok hmix ⟨[135], [], [], false⟩ (by kernel_rfl) (Has.of_sub (List.nil_sublist _)) ?_
        simp -implicitDefEqProofs only [go_sem, not_false_eq_true, hget_skip, hset_skip, List.append_assoc, rowsH_names, hnf, hng, hn3, hn4, hn7, hnO, hget_rowsE hI, hget_rows hI, hset_rowsE hI, hset_rows hI, outC_get, outC_length, mxR_get, mxR_length, mxR_set, mxR_set0, hne2, hne3, hne4, hne7, hneO, hnX, hnS, hneX, hneS, qc_div, hnY, hneY, hn14, hne14, hi1, hi2, hi3, hi4, atF, hat, hw1]
        refine opK_lit tok T44 rfl T3 (by decide) (by simp -implicitDefEqProofs only [go_sem, zrep, List.flatten_cons, List.flatten_nil]; rfl) ?_
        simp -implicitDefEqProofs only [go_sem, not_false_eq_true, hget_skip, hset_skip, List.append_assoc, rowsH_names, hnf, hng, hn3, hn4, hn7, hnO, hget_rowsE hI, hget_rows hI, hset_rowsE hI, hset_rows hI, outC_get, outC_length, mxR_get, mxR_length, mxR_set, mxR_set0, hne2, hne3, hne4, hne7, hneO, hnX, hnS, hneX, hneS, qc_div, hnY, hneY, hn14, hne14]
        refine opK_append tok rfl rfl (by simp -implicitDefEqProofs only [go_sem, not_false_eq_true, hget_skip, hset_skip, List.append_assoc, rowsH_names, hnf, hng, hn3, hn4, hn7, hnO, hget_rowsE hI, hget_rows hI, hset_rowsE hI, hset_rows hI, outC_get, outC_length, mxR_get, mxR_length, mxR_set, mxR_set0, hne2, hne3, hne4, hne7, hneO, hnX, hnS, hneX, hneS, qc_div, hnY, hneY, hn14, hne14]; rfl) rfl T44 rfl T3 rfl (by decide) (by simp only [List.length_map, htl, Nat.div_one, List.length_cons, List.length_nil]; omega) fun v5 => ?_
        simp -implicitDefEqProofs only [go_sem, not_false_eq_true, hget_skip, hset_skip, List.append_assoc, rowsH_names, hnf, hng, hn3, hn4, hn7, hnO, hget_rowsE hI, hget_rows hI, hset_rowsE hI, hset_rows hI, outC_get, outC_length, mxR_get, mxR_length, mxR_set, mxR_set0, hne2, hne3, hne4, hne7, hneO, hnX, hnS, hneX, hneS, qc_div, hnY, hneY, hn14, hne14, hrow, wrap_up han (by omega)]
        refine ⟨(a + 1, q2, v2, v5), ⟨han, hq3⟩, by simp only; omega, by simp -implicitDefEqProofs only [go_sem], ?_⟩
        have := hnext q2 v2 v5 (((rowT f g n keep L p).take (a + 1)).map iA) (.cells 34 [.raw (.int .i64 tq.1), .raw (.int .i64 tq.2)])
        simpa -implicitDefEqProofs only [List.cons_append, List.nil_append, List.append_assoc] using this
      have hat : atI q2 tq.1 tq.2 = 0 := atI_not hs
      obtain ⟨x, hx0⟩ : ∃ x : It, x = (tq, (((i : Nat) : Int), (a : Int))) := ⟨_, rfl⟩
      have hxs : x.1 ∉ q2.map (·.1) := by rw [hx0]; exact hs
      have hq3 : q2 ++ [x] = pushAll q (sucs f g keep i p (List.range (a + 1))) := by
        rw [hsnoc, pushAll_append, ← hq2]
        have e : sucs f g keep i p [a] = [x] := by rw [hx0]; simp [sucs, suc1, hst, hkt]
        rw [e, pushAll_cons, pushAll_nil, push_new hxs]
      have hqL : q2 ++ [x] <+: L := by
        rw [hq3]
        have h1 := sucs_take f g keep i p q (List.range n) (a + 1)
        have h2 : (List.range n).take (a + 1) = List.range (a + 1) := by rw [List.take_range]; congr 1; omega
        rw [h2] at h1; exact h1.trans hLq
      have hs3 : tq ∈ (q2 ++ [x]).map (·.1) := by rw [hx0]; simp
      have hat3 : atI (q2 ++ [x]) tq.1 tq.2 = ((((q2 ++ [x]).map (·.1)).idxOf tq : Nat) : Int) + 1 := atI_mem hs3
      have hix : ((q2 ++ [x]).map (·.1)).idxOf tq < q2.length + 1 := by have := List.idxOf_lt_length_iff.2 hs3; simpa using this
      have hw1 : IntKind.i64.wrap (((((q2 ++ [x]).map (·.1)).idxOf tq : Nat) : Int) + 1 - 1) = ((((q2 ++ [x]).map (·.1)).idxOf tq : Nat) : Int) := by rw [IntWalk.i64_in _ (by omega)]; omega
      have hrow : (((rowT f g n keep L p).take a).map iA) ++ [.raw (.int .i64 ((((q2 ++ [x]).map (·.1)).idxOf tq : Nat) : Int))] = ((rowT f g n keep L p).take (a + 1)).map iA := by rw [hrt, idxOf_pre hqL hs3, List.map_append (f := iA)]; rfl
      have hsf : upd2 (atF q2) tq.1 tq.2 (.raw (.int .i64 (((q2 ++ [x]).length : Nat) : Int))) = atF (q2 ++ [x]) := by
        have h1 := atF_snoc hxs
        rw [hx0] at h1 ⊢
        rw [List.length_append]; exact h1
      have hqc : qc q2 ++ [.raw (.int .i64 tq.1), .raw (.int .i64 tq.2)] = qc (q2 ++ [x]) := by
        have := qc_snoc q2 x
        rw [← this, hx0]; rfl
      simp -implicitDefEqProofs only [go_sem, not_false_eq_true, hget_skip, hset_skip, List.append_assoc, rowsH_names, hnf, hng, hn3, hn4, hn7, hnO, hget_rowsE hI, hget_rows hI, hset_rowsE hI, hset_rows hI, outC_get, outC_length, mxR_get, mxR_length, mxR_set, mxR_set0, hne2, hne3, hne4, hne7, hneO, hnX, hnS, hneX, hneS, qc_div, hnY, hneY, hn14, hne14, hi1, hi2, hi3, hi4, atF, hat, decide_true]
      refine opK_lit tok T28 rfl T34 (by decide) (by simp -implicitDefEqProofs only [go_sem, zrep, List.flatten_cons, List.flatten_nil]; rfl) ?_
      simp -implicitDefEqProofs only [go_sem, not_false_eq_true, hget_skip, hset_skip, List.append_assoc, rowsH_names, hnf, hng, hn3, hn4, hn7, hnO, hget_rowsE hI, hget_rows hI, hset_rowsE hI, hset_rows hI, outC_get, outC_length, mxR_get, mxR_length, mxR_set, mxR_set0, hne2, hne3, hne4, hne7, hneO, hnX, hnS, hneX, hneS, qc_div, hnY, hneY, hn14, hne14]
      refine opK_append tok rfl rfl (by simp -implicitDefEqProofs only [go_sem, not_false_eq_true, hget_skip, hset_skip, List.append_assoc, rowsH_names, hnf, hng, hn3, hn4, hn7, hnO, hget_rowsE hI, hget_rows hI, hset_rowsE hI, hset_rows hI, outC_get, outC_length, mxR_get, mxR_length, mxR_set, mxR_set0, hne2, hne3, hne4, hne7, hneO, hnX, hnS, hneX, hneS, qc_div, hnY, hneY, hn14, hne14]; rfl) rfl T28 rfl T34 rfl (by decide) (by simp only [qc_div, List.length_cons, List.length_nil]; omega) fun v3 => ?_
      simp -implicitDefEqProofs only [go_sem, not_false_eq_true, hget_skip, hset_skip, List.append_assoc, rowsH_names, hnf, hng, hn3, hn4, hn7, hnO, hget_rowsE hI, hget_rows hI, hset_rowsE hI, hset_rows hI, outC_get, outC_length, mxR_get, mxR_length, mxR_set, mxR_set0, hne2, hne3, hne4, hne7, hneO, hnX, hnS, hneX, hneS, qc_div, hnY, hneY, hn14, hne14, hqc]
      refine AW.draw tok hmix ⟨[], [], [], false⟩ (by kernel_rfl) (Has.of_sub (List.nil_sublist _)) ?_
      simp -implicitDefEqProofs only [go_sem, not_false_eq_true, hget_skip, hset_skip, List.append_assoc, rowsH_names, hnf, hng, hn3, hn4, hn7, hnO, hget_rowsE hI, hget_rows hI, hset_rowsE hI, hset_rows hI, outC_get, outC_length, mxR_get, mxR_length, mxR_set, mxR_set0, hne2, hne3, hne4, hne7, hneO, hnX, hnS, hneX, hneS, qc_div, hnY, hneY, hn14, hne14, hi1, hi2, hi3, hi4, hsf]
      refine AW.draw tok hmix ⟨[135], [], [], false⟩ (by kernel_rfl) (Has.of_sub (List.nil_sublist _)) ?_
      have hatF : atF (q2 ++ [x]) tq.1 tq.2 = .raw (.int .i64 (((((q2 ++ [x]).map (·.1)).idxOf tq : Nat) : Int) + 1)) := by unfold atF; rw [hat3]
      simp -implicitDefEqProofs only [go_sem, not_false_eq_true, hget_skip, hset_skip, List.append_assoc, rowsH_names, hnf, hng, hn3, hn4, hn7, hnO, hget_rowsE hI, hget_rows hI, hset_rowsE hI, hset_rows hI, outC_get, outC_length, mxR_get, mxR_length, mxR_set, mxR_set0, hne2, hne3, hne4, hne7, hneO, hnX, hnS, hneX, hneS, qc_div, hnY, hneY, hn14, hne14, hi1, hi2, hi3, hi4, hatF, hw1]
      refine opK_lit tok T44 rfl T3 (by decide) (by simp -implicitDefEqProofs only [go_sem, zrep, List.flatten_cons, List.flatten_nil]; rfl) ?_
      simp -implicitDefEqProofs only [go_sem, not_false_eq_true, hget_skip, hset_skip, List.append_assoc, rowsH_names, hnf, hng, hn3, hn4, hn7, hnO, hget_rowsE hI, hget_rows hI, hset_rowsE hI, hset_rows hI, outC_get, outC_length, mxR_get, mxR_length, mxR_set, mxR_set0, hne2, hne3, hne4, hne7, hneO, hnX, hnS, hneX, hneS, qc_div, hnY, hneY, hn14, hne14]
      refine opK_append tok rfl rfl (by simp -implicitDefEqProofs only [go_sem, not_false_eq_true, hget_skip, hset_skip, List.append_assoc, rowsH_names, hnf, hng, hn3, hn4, hn7, hnO, hget_rowsE hI, hget_rows hI, hset_rowsE hI, hset_rows hI, outC_get, outC_length, mxR_get, mxR_length, mxR_set, mxR_set0, hne2, hne3, hne4, hne7, hneO, hnX, hnS, hneX, hneS, qc_div, hnY, hneY, hn14, hne14]; rfl) rfl T44 rfl T3 rfl (by decide) (by simp only [List.length_map, htl, Nat.div_one, List.length_cons, List.length_nil]; omega) fun v5 => ?_
      simp -implicitDefEqProofs only [go_sem, not_false_eq_true, hget_skip, hset_skip, List.append_assoc, rowsH_names, hnf, hng, hn3, hn4, hn7, hnO, hget_rowsE hI, hget_rows hI, hset_rowsE hI, hset_rows hI, outC_get, outC_length, mxR_get, mxR_length, mxR_set, mxR_set0, hne2, hne3, hne4, hne7, hneO, hnX, hnS, hneX, hneS, qc_div, hnY, hneY, hn14, hne14, hrow, wrap_up han (by omega)]
      refine ⟨(a + 1, q2 ++ [x], v3, v5), ⟨han, hq3⟩, by simp only; omega, by simp -implicitDefEqProofs only [go_sem], ?_⟩
      have := hnext (q2 ++ [x]) v3 v5 (((rowT f g n keep L p).take (a + 1)).map iA) (.cells 34 [.raw (.int .i64 tq.1), .raw (.int .i64 tq.2)])
      simpa -implicitDefEqProofs only [List.cons_append, List.nil_append, List.append_assoc] using this
end Go.Proofs.Ytebbiciepbbhkaa
/- Chapter 12, part Tr: the law FaceTogether. -/
namespace Go.Proofs.Ytebbiciepbbhkaa
open Go Go.NS

theorem togF_small {f g : Fa} {n : Nat} (hf : f.Val n) (hg : g.Val n) (hfs : f.Small) (keep : Pr → Bool) : (togF f g n keep).Small := by
  have h1 : (togL f g n keep).length ≤ f.sts.length * g.sts.length := in_length (foundL_nodup f g n (ownS f g) keep) (foundL_in hf hg)
  have h4 : f.sts.length * g.sts.length ≤ 500 * 500 := Nat.mul_le_mul hf.few hg.few
  have h8 := hf.n8
  refine ⟨hfs.a, ?_, ?_⟩
  · simp only [togF, List.length_map]; omega
  · intro l hl
    simp only [togF, List.mem_map] at hl
    obtain ⟨x, _, rfl⟩ := hl
    simp only [rowT, List.length_map, List.length_range]; omega
theorem zero_small : Fa.zero.Small := ⟨by decide, by decide, by simp [Fa.zero]⟩
theorem turn_small {f : Fa} (hf : f.Small) : f.turn.Small := ⟨hf.a, hf.s, hf.r⟩
theorem beq_self (f : Fa) : f.beq f = true := (Fa.beq_iff f f).2 rfl


set_option maxRecDepth 4000 in
set_option maxHeartbeats 4000000 in
theorem FaceTogether_ok (f g : Fa) (hf : f.Small) (hg : g.Small) : Fp Try.prog 4 [f.av, g.av] (abool true) := by
  have h120 : decide ((120 : Int) = 0) = false := by decide
  refine Fp.of_vc tok Try.func4 rfl (by decide) ?_
  simp -implicitDefEqProofs only [go_sem, Try.ntmps4, Fa.av, Fa.cells]
  refine newK_intro fun n2 hn2 => ?_
  try simp -implicitDefEqProofs only [hset, List.map_append, List.map_cons, List.map_nil, List.cons_append, List.nil_append, List.mem_cons, List.mem_append, List.not_mem_nil, or_false, not_or] at hn2
  simp -implicitDefEqProofs only [go_sem]
  refine newK_intro fun n3 hn3 => ?_
  try simp -implicitDefEqProofs only [hset, List.map_append, List.map_cons, List.map_nil, List.cons_append, List.nil_append, List.mem_cons, List.mem_append, List.not_mem_nil, or_false, not_or] at hn3
  simp -implicitDefEqProofs only [go_sem, hn3, not_false_eq_true]
  refine opK_pure (light_ok f hf) rfl (Sub.of_eq (by first | rfl | simp -implicitDefEqProofs only [go_sem])) ?_
  simp -implicitDefEqProofs only [go_sem, hn3, not_false_eq_true]
  cases hL1 : lightB f with
  | false =>
    simp -implicitDefEqProofs only [go_sem, hn3, not_false_eq_true]
    refine opK_pure (awake_ok) rfl (Sub.of_eq (by first | rfl | simp -implicitDefEqProofs only [go_sem])) ?_
    simp -implicitDefEqProofs only [go_sem, hn3, not_false_eq_true]
    refine fnPost_ret tok ?_
    simp -implicitDefEqProofs only [go_sem, Try.results4]
  | true =>
  simp -implicitDefEqProofs only [go_sem, hn3, not_false_eq_true]
  refine opK_pure (light_ok g hg) rfl (Sub.of_eq (by first | rfl | simp -implicitDefEqProofs only [go_sem])) ?_
  simp -implicitDefEqProofs only [go_sem, hn3, not_false_eq_true]
  cases hL2 : lightB g with
  | false =>
    simp -implicitDefEqProofs only [go_sem, hn3, not_false_eq_true]
    refine opK_pure (awake_ok) rfl (Sub.of_eq (by first | rfl | simp -implicitDefEqProofs only [go_sem])) ?_
    simp -implicitDefEqProofs only [go_sem, hn3, not_false_eq_true]
    refine fnPost_ret tok ?_
    simp -implicitDefEqProofs only [go_sem, Try.results4]
  | true =>
  simp -implicitDefEqProofs only [go_sem, hn3, not_false_eq_true]
  refine AW.draw tok hmix ⟨[], [], [], false⟩ (by kernel_rfl) (Has.of_sub (List.nil_sublist _)) ?_
  simp -implicitDefEqProofs only [go_sem, hn3, not_false_eq_true]
  refine opK_pure (Paired_ok f g) rfl (Sub.of_eq (by first | rfl | simp -implicitDefEqProofs only [go_sem])) ?_
  simp -implicitDefEqProofs only [go_sem, hn3, not_false_eq_true]
  refine opK_pure (fault_ok f g (decide (andI f.out g.out = 0)) hf hg) rfl (Sub.of_eq (by first | rfl | simp -implicitDefEqProofs only [go_sem])) ?_
  simp -implicitDefEqProofs only [go_sem, hn3, not_false_eq_true, faultE_eq]
  refine opK_pure (IsR_ok f hf) rfl (Sub.of_eq (by first | rfl | simp -implicitDefEqProofs only [go_sem])) ?_
  simp -implicitDefEqProofs only [go_sem, hn3, not_false_eq_true, iA]
  refine newK_intro fun n7 hn7 => ?_
  try simp -implicitDefEqProofs only [hset, List.map_append, List.map_cons, List.map_nil, List.cons_append, List.nil_append, List.mem_cons, List.mem_append, List.not_mem_nil, or_false, not_or] at hn7
  simp -implicitDefEqProofs only [go_sem, hn3, not_false_eq_true, hn7]
  refine newK_intro fun n8 hn8 => ?_
  try simp -implicitDefEqProofs only [hset, List.map_append, List.map_cons, List.map_nil, List.cons_append, List.nil_append, List.mem_cons, List.mem_append, List.not_mem_nil, or_false, not_or] at hn8
  simp -implicitDefEqProofs only [go_sem, hn3, not_false_eq_true, hn7, hn8]
  obtain ⟨tp, htp⟩ : ∃ tp : List (Int × Int), tp = (togP f g).map fun x => ((x.1.1 : Int), (x.1.2 : Int)) := ⟨_, rfl⟩
  have hqp : qc (togP f g) = pc tp := by rw [htp]; rfl
  by_cases c0 : pairedE f g = 0
  rotate_left
  · have he : togE f g = pairedE f g := by simp only [togE, if_neg c0]
    have hR : togR f g = Fa.zero := by simp only [togR, he, if_neg c0]
    have hP : togP f g = [] := by simp only [togP, he, if_neg c0]
    have htS : (togR f g).Small := hR ▸ zero_small
    have hpl : tp.length * 16 ≤ 140737488351232 := by rw [htp, hP]; decide
    have hp0 : tp = [] := by rw [htp, hP]; rfl
    cases hvB : f.validB with
    | true =>
      have hoF : otherF f = f.turn := by simp [otherF, hvB]
      have hoE : otherE f = 0 := by simp [otherE, hvB]
      have hoS : (otherF f).Small := hoF ▸ turn_small hf
      simp -implicitDefEqProofs only [go_sem, hn3, not_false_eq_true, hn7, hn8]
      refine opK_pure (OtherR_ok f hf) rfl (Sub.of_eq (by first | rfl | simp -implicitDefEqProofs only [go_sem])) ?_
      simp -implicitDefEqProofs only [go_sem, hn3, not_false_eq_true, hn7, hn8, c0, decide_false, Fa.av, Fa.cells, iA]
      refine AW.draw tok hmix ⟨[], [], [], false⟩ (by kernel_rfl) (Has.of_sub (List.nil_sublist _)) ?_
      simp -implicitDefEqProofs only [go_sem, hn3, not_false_eq_true, hn7, hn8]
      refine opK_pure (Copy_ok f hf) rfl (Sub.of_eq (by first | rfl | simp -implicitDefEqProofs only [go_sem])) ?_
      simp -implicitDefEqProofs only [go_sem, hn3, not_false_eq_true, hn7, hn8]
      refine opK_pure (Copy_ok g hg) rfl (Sub.of_eq (by first | rfl | simp -implicitDefEqProofs only [go_sem])) ?_
      simp -implicitDefEqProofs only [go_sem, hn3, not_false_eq_true, hn7, hn8]
      refine opK_pure (Together_ok f g hf hg) rfl (Sub.of_eq (by first | rfl | simp -implicitDefEqProofs only [go_sem])) ?_
      simp -implicitDefEqProofs only [go_sem, hn3, not_false_eq_true, hn7, hn8, Fa.av, Fa.cells, iA]
      refine newK_intro fun n10 hn10 => ?_
      try simp -implicitDefEqProofs only [hset, List.map_append, List.map_cons, List.map_nil, List.cons_append, List.nil_append, List.mem_cons, List.mem_append, List.not_mem_nil, or_false, not_or] at hn10
      simp -implicitDefEqProofs only [go_sem, hn3, not_false_eq_true, hn7, hn8, hn10, Fa.av, Fa.cells, iA]
      refine opK_pure (Copy_ok f hf) rfl (Sub.of_eq (by first | rfl | simp -implicitDefEqProofs only [go_sem])) ?_
      simp -implicitDefEqProofs only [go_sem, hn3, not_false_eq_true, hn7, hn8, hn10, Fa.av, Fa.cells, iA]
      refine opK_pure (Other_ok f hf) rfl (Sub.of_eq (by first | rfl | simp -implicitDefEqProofs only [go_sem])) ?_
      simp -implicitDefEqProofs only [go_sem, hn3, not_false_eq_true, hn7, hn8, hn10, Fa.av, Fa.cells, iA]
      refine newK_intro fun n13 hn13 => ?_
      try simp -implicitDefEqProofs only [hset, List.map_append, List.map_cons, List.map_nil, List.cons_append, List.nil_append, List.mem_cons, List.mem_append, List.not_mem_nil, or_false, not_or] at hn13
      simp -implicitDefEqProofs only [go_sem, hn3, not_false_eq_true, hn7, hn8, hn10, hn13, hoE, h120, decide_true]
      refine opK_pure (Same_ok (otherF f) (otherF f) hoS hoS) rfl (Sub.of_eq (by rw [hoF]; rfl)) ?_
      simp -implicitDefEqProofs only [go_sem, hn3, not_false_eq_true, hn7, hn8, hn10, hn13, beq_self, he, decide_true]
      refine opK_pure (Same_ok (togR f g) (togR f g) htS htS) rfl (Sub.of_les (by rw [hR]; exact Les.cons (Le.refl _) (Les.cons le_zero Les.nil))) ?_
      simp -implicitDefEqProofs only [go_sem, hn3, not_false_eq_true, hn7, hn8, hn10, hn13, beq_self]
      refine opK_pure (SamePairs_ok tp tp hpl hpl) rfl (Sub.of_les (by rw [hqp, hp0]; exact Les.cons (Le.refl _) (Les.cons (Le.nil 2) Les.nil))) ?_
      simp -implicitDefEqProofs only [go_sem, hn3, not_false_eq_true, hn7, hn8, hn10, hn13, decide_true]
      refine opK_pure (awake_ok) rfl (Sub.of_eq (by first | rfl | simp -implicitDefEqProofs only [go_sem])) ?_
      simp -implicitDefEqProofs only [go_sem]
      refine fnPost_ret tok ?_
      simp -implicitDefEqProofs only [go_sem, Try.results4]
    | false =>
      have hoF : otherF f = Fa.zero := by simp [otherF, hvB]
      have hoE : otherE f = 120 := by simp [otherE, hvB]
      have hoS : (otherF f).Small := hoF ▸ zero_small
      simp -implicitDefEqProofs only [go_sem, hn3, not_false_eq_true, hn7, hn8, c0, decide_false]
      refine AW.draw tok hmix ⟨[], [], [], false⟩ (by kernel_rfl) (Has.of_sub (List.nil_sublist _)) ?_
      simp -implicitDefEqProofs only [go_sem, hn3, not_false_eq_true, hn7, hn8]
      refine opK_pure (Copy_ok f hf) rfl (Sub.of_eq (by first | rfl | simp -implicitDefEqProofs only [go_sem])) ?_
      simp -implicitDefEqProofs only [go_sem, hn3, not_false_eq_true, hn7, hn8]
      refine opK_pure (Copy_ok g hg) rfl (Sub.of_eq (by first | rfl | simp -implicitDefEqProofs only [go_sem])) ?_
      simp -implicitDefEqProofs only [go_sem, hn3, not_false_eq_true, hn7, hn8]
      refine opK_pure (Together_ok f g hf hg) rfl (Sub.of_eq (by first | rfl | simp -implicitDefEqProofs only [go_sem])) ?_
      simp -implicitDefEqProofs only [go_sem, hn3, not_false_eq_true, hn7, hn8, Fa.av, Fa.cells, iA]
      refine newK_intro fun n10 hn10 => ?_
      try simp -implicitDefEqProofs only [hset, List.map_append, List.map_cons, List.map_nil, List.cons_append, List.nil_append, List.mem_cons, List.mem_append, List.not_mem_nil, or_false, not_or] at hn10
      simp -implicitDefEqProofs only [go_sem, hn3, not_false_eq_true, hn7, hn8, hn10, Fa.av, Fa.cells, iA]
      refine opK_pure (Copy_ok f hf) rfl (Sub.of_eq (by first | rfl | simp -implicitDefEqProofs only [go_sem])) ?_
      simp -implicitDefEqProofs only [go_sem, hn3, not_false_eq_true, hn7, hn8, hn10, Fa.av, Fa.cells, iA]
      refine opK_pure (Other_ok f hf) rfl (Sub.of_eq (by first | rfl | simp -implicitDefEqProofs only [go_sem])) ?_
      simp -implicitDefEqProofs only [go_sem, hn3, not_false_eq_true, hn7, hn8, hn10, Fa.av, Fa.cells, iA]
      refine newK_intro fun n13 hn13 => ?_
      try simp -implicitDefEqProofs only [hset, List.map_append, List.map_cons, List.map_nil, List.cons_append, List.nil_append, List.mem_cons, List.mem_append, List.not_mem_nil, or_false, not_or] at hn13
      simp -implicitDefEqProofs only [go_sem, hn3, not_false_eq_true, hn7, hn8, hn10, hn13, hoE, h120, decide_true]
      refine opK_pure (Same_ok (otherF f) (otherF f) hoS hoS) rfl (Sub.of_les (by rw [hoF]; exact Les.cons (Le.refl _) (Les.cons le_zero Les.nil))) ?_
      simp -implicitDefEqProofs only [go_sem, hn3, not_false_eq_true, hn7, hn8, hn10, hn13, beq_self, he, decide_true]
      refine opK_pure (Same_ok (togR f g) (togR f g) htS htS) rfl (Sub.of_les (by rw [hR]; exact Les.cons (Le.refl _) (Les.cons le_zero Les.nil))) ?_
      simp -implicitDefEqProofs only [go_sem, hn3, not_false_eq_true, hn7, hn8, hn10, hn13, beq_self]
      refine opK_pure (SamePairs_ok tp tp hpl hpl) rfl (Sub.of_les (by rw [hqp, hp0]; exact Les.cons (Le.refl _) (Les.cons (Le.nil 2) Les.nil))) ?_
      simp -implicitDefEqProofs only [go_sem, hn3, not_false_eq_true, hn7, hn8, hn10, hn13, decide_true]
      refine opK_pure (awake_ok) rfl (Sub.of_eq (by first | rfl | simp -implicitDefEqProofs only [go_sem])) ?_
      simp -implicitDefEqProofs only [go_sem]
      refine fnPost_ret tok ?_
      simp -implicitDefEqProofs only [go_sem, Try.results4]
  obtain ⟨h1, h2⟩ := paired_val c0
  obtain ⟨hv, hw, _⟩ := fine_val h1
  have hvB : f.validB = true := by
    unfold fineE at h1
    split at h1
    · rename_i h; simp only [Bool.and_eq_true] at h; exact h.1
    · omega
  have hoF : otherF f = f.turn := by simp [otherF, hvB]
  have hoE : otherE f = 0 := by simp [otherE, hvB]
  have hoS : (otherF f).Small := hoF ▸ turn_small hf
  simp -implicitDefEqProofs only [go_sem, hn3, not_false_eq_true, hn7, hn8, hvB]
  refine opK_pure (OtherR_ok f hf) rfl (Sub.of_eq (by first | rfl | simp -implicitDefEqProofs only [go_sem])) ?_
  simp -implicitDefEqProofs only [go_sem, hn3, not_false_eq_true, hn7, hn8, c0, decide_true, Fa.av, Fa.cells, iA]
  refine opK_pure (FitsR_ok f g hv hw) rfl (Sub.of_eq (by first | rfl | simp -implicitDefEqProofs only [go_sem])) ?_
  have hlw := lost_way hv hw
  cases hl : lostD f g f.acts.length (0, 0) with
  | true =>
    have hw2 := hlw.2 hl
    have hD : fitsD f g f.acts.length = ((wayW f g f.acts.length).length : Int) := by simp [fitsD, hw2]
    have hge : ((wayW f g f.acts.length).length : Int) ≥ 0 := by omega
    have he : togE f g = 3 := by simp only [togE, if_pos c0, hl, if_true]
    have hR : togR f g = Fa.zero := by simp only [togR, he]; rfl
    have hP : togP f g = [] := by simp only [togP, he]; rfl
    have htS : (togR f g).Small := hR ▸ zero_small
    have hpl : tp.length * 16 ≤ 140737488351232 := by rw [htp, hP]; decide
    have hp0 : tp = [] := by rw [htp, hP]; rfl
    have h30 : decide ((3 : Int) = 0) = false := by decide
    simp -implicitDefEqProofs only [go_sem, hn3, not_false_eq_true, hn7, hn8, hD, hge, decide_true, iA, h30]
    refine AW.draw tok hmix ⟨[], [], [], false⟩ (by kernel_rfl) (Has.of_sub (List.nil_sublist _)) ?_
    simp -implicitDefEqProofs only [go_sem, hn3, not_false_eq_true, hn7, hn8]
    refine opK_pure (Copy_ok f hf) rfl (Sub.of_eq (by first | rfl | simp -implicitDefEqProofs only [go_sem])) ?_
    simp -implicitDefEqProofs only [go_sem, hn3, not_false_eq_true, hn7, hn8]
    refine opK_pure (Copy_ok g hg) rfl (Sub.of_eq (by first | rfl | simp -implicitDefEqProofs only [go_sem])) ?_
    simp -implicitDefEqProofs only [go_sem, hn3, not_false_eq_true, hn7, hn8]
    refine opK_pure (Together_ok f g hf hg) rfl (Sub.of_eq (by first | rfl | simp -implicitDefEqProofs only [go_sem])) ?_
    simp -implicitDefEqProofs only [go_sem, hn3, not_false_eq_true, hn7, hn8, Fa.av, Fa.cells, iA]
    refine newK_intro fun n10 hn10 => ?_
    try simp -implicitDefEqProofs only [hset, List.map_append, List.map_cons, List.map_nil, List.cons_append, List.nil_append, List.mem_cons, List.mem_append, List.not_mem_nil, or_false, not_or] at hn10
    simp -implicitDefEqProofs only [go_sem, hn3, not_false_eq_true, hn7, hn8, hn10, Fa.av, Fa.cells, iA]
    refine opK_pure (Copy_ok f hf) rfl (Sub.of_eq (by first | rfl | simp -implicitDefEqProofs only [go_sem])) ?_
    simp -implicitDefEqProofs only [go_sem, hn3, not_false_eq_true, hn7, hn8, hn10, Fa.av, Fa.cells, iA]
    refine opK_pure (Other_ok f hf) rfl (Sub.of_eq (by first | rfl | simp -implicitDefEqProofs only [go_sem])) ?_
    simp -implicitDefEqProofs only [go_sem, hn3, not_false_eq_true, hn7, hn8, hn10, Fa.av, Fa.cells, iA]
    refine newK_intro fun n13 hn13 => ?_
    try simp -implicitDefEqProofs only [hset, List.map_append, List.map_cons, List.map_nil, List.cons_append, List.nil_append, List.mem_cons, List.mem_append, List.not_mem_nil, or_false, not_or] at hn13
    simp -implicitDefEqProofs only [go_sem, hn3, not_false_eq_true, hn7, hn8, hn10, hn13, hoE, h120, decide_true]
    refine opK_pure (Same_ok (otherF f) (otherF f) hoS hoS) rfl (Sub.of_eq (by rw [hoF]; rfl)) ?_
    simp -implicitDefEqProofs only [go_sem, hn3, not_false_eq_true, hn7, hn8, hn10, hn13, beq_self, he, decide_true]
    refine opK_pure (Same_ok (togR f g) (togR f g) htS htS) rfl (Sub.of_les (by rw [hR]; exact Les.cons (Le.refl _) (Les.cons le_zero Les.nil))) ?_
    simp -implicitDefEqProofs only [go_sem, hn3, not_false_eq_true, hn7, hn8, hn10, hn13, beq_self]
    refine opK_pure (SamePairs_ok tp tp hpl hpl) rfl (Sub.of_les (by rw [hqp, hp0]; exact Les.cons (Le.refl _) (Les.cons (Le.nil 2) Les.nil))) ?_
    simp -implicitDefEqProofs only [go_sem, hn3, not_false_eq_true, hn7, hn8, hn10, hn13, decide_true]
    refine opK_pure (awake_ok) rfl (Sub.of_eq (by first | rfl | simp -implicitDefEqProofs only [go_sem])) ?_
    simp -implicitDefEqProofs only [go_sem]
    refine fnPost_ret tok ?_
    simp -implicitDefEqProofs only [go_sem, Try.results4]
  | false =>
  have hw2 : ¬ (wayI f g f.acts.length < (wayL f g f.acts.length).length) := fun h => by rw [hlw.1 h] at hl; cases hl
  have hD : fitsD f g f.acts.length = -1 := by simp [fitsD, hw2]
  have hge : decide ((-1 : Int) ≥ 0) = false := by decide
  simp -implicitDefEqProofs only [go_sem, hn3, not_false_eq_true, hn7, hn8, hD, hge, iA, c0, decide_true]
  refine opK_pure (TogetherR_ok f g hv hw hf) rfl (Sub.of_eq (by first | rfl | simp -implicitDefEqProofs only [go_sem])) ?_
  have hln : (togF f g f.acts.length (keepD f g f.acts.length)).sts.length = (togL f g f.acts.length (keepD f g f.acts.length)).length := by simp [togF]
  have hll : (togL f g f.acts.length (keepD f g f.acts.length)).length * 16 ≤ 140737488351232 := by
    have h1 : (togL f g f.acts.length (keepD f g f.acts.length)).length ≤ f.sts.length * g.sts.length := in_length (foundL_nodup f g f.acts.length (ownS f g) (keepD f g f.acts.length)) (foundL_in hv hw)
    have h4 : f.sts.length * g.sts.length ≤ 500 * 500 := Nat.mul_le_mul hv.few hw.few
    omega
  by_cases h5 : 500 < (togL f g f.acts.length (keepD f g f.acts.length)).length
  · have he : togE f g = 2 := by simp only [togE, if_pos c0, hl, if_pos h5]; rfl
    have hR : togR f g = Fa.zero := by simp only [togR, he]; rfl
    have hP : togP f g = [] := by simp only [togP, he]; rfl
    have htS : (togR f g).Small := hR ▸ zero_small
    have hpl : tp.length * 16 ≤ 140737488351232 := by rw [htp, hP]; decide
    have hp0 : tp = [] := by rw [htp, hP]; rfl
    have hgt : (((togL f g f.acts.length (keepD f g f.acts.length)).length : Nat) : Int) > 500 := by omega
    simp -implicitDefEqProofs only [go_sem, hn3, not_false_eq_true, hn7, hn8, Fa.av, Fa.cells, iA, hln, hgt, decide_true]
    refine AW.draw tok hmix ⟨[], [], [], false⟩ (by kernel_rfl) (Has.of_sub (List.nil_sublist _)) ?_
    simp -implicitDefEqProofs only [go_sem, hn3, not_false_eq_true, hn7, hn8]
    refine opK_pure (Copy_ok f hf) rfl (Sub.of_eq (by first | rfl | simp -implicitDefEqProofs only [go_sem])) ?_
    simp -implicitDefEqProofs only [go_sem, hn3, not_false_eq_true, hn7, hn8]
    refine opK_pure (Copy_ok g hg) rfl (Sub.of_eq (by first | rfl | simp -implicitDefEqProofs only [go_sem])) ?_
    simp -implicitDefEqProofs only [go_sem, hn3, not_false_eq_true, hn7, hn8]
    refine opK_pure (Together_ok f g hf hg) rfl (Sub.of_eq (by first | rfl | simp -implicitDefEqProofs only [go_sem])) ?_
    simp -implicitDefEqProofs only [go_sem, hn3, not_false_eq_true, hn7, hn8, Fa.av, Fa.cells, iA]
    refine newK_intro fun n10 hn10 => ?_
    try simp -implicitDefEqProofs only [hset, List.map_append, List.map_cons, List.map_nil, List.cons_append, List.nil_append, List.mem_cons, List.mem_append, List.not_mem_nil, or_false, not_or] at hn10
    simp -implicitDefEqProofs only [go_sem, hn3, not_false_eq_true, hn7, hn8, hn10, Fa.av, Fa.cells, iA]
    refine opK_pure (Copy_ok f hf) rfl (Sub.of_eq (by first | rfl | simp -implicitDefEqProofs only [go_sem])) ?_
    simp -implicitDefEqProofs only [go_sem, hn3, not_false_eq_true, hn7, hn8, hn10, Fa.av, Fa.cells, iA]
    refine opK_pure (Other_ok f hf) rfl (Sub.of_eq (by first | rfl | simp -implicitDefEqProofs only [go_sem])) ?_
    simp -implicitDefEqProofs only [go_sem, hn3, not_false_eq_true, hn7, hn8, hn10, Fa.av, Fa.cells, iA]
    refine newK_intro fun n13 hn13 => ?_
    try simp -implicitDefEqProofs only [hset, List.map_append, List.map_cons, List.map_nil, List.cons_append, List.nil_append, List.mem_cons, List.mem_append, List.not_mem_nil, or_false, not_or] at hn13
    simp -implicitDefEqProofs only [go_sem, hn3, not_false_eq_true, hn7, hn8, hn10, hn13, hoE, h120, decide_true]
    refine opK_pure (Same_ok (otherF f) (otherF f) hoS hoS) rfl (Sub.of_eq (by rw [hoF]; rfl)) ?_
    simp -implicitDefEqProofs only [go_sem, hn3, not_false_eq_true, hn7, hn8, hn10, hn13, beq_self, he, decide_true]
    refine opK_pure (Same_ok (togR f g) (togR f g) htS htS) rfl (Sub.of_les (by rw [hR]; exact Les.cons (Le.refl _) (Les.cons le_zero Les.nil))) ?_
    simp -implicitDefEqProofs only [go_sem, hn3, not_false_eq_true, hn7, hn8, hn10, hn13, beq_self]
    refine opK_pure (SamePairs_ok tp tp hpl hpl) rfl (Sub.of_les (by rw [hqp, hp0]; exact Les.cons (Le.refl _) (Les.cons (Le.nil 2) Les.nil))) ?_
    simp -implicitDefEqProofs only [go_sem, hn3, not_false_eq_true, hn7, hn8, hn10, hn13, decide_true]
    refine opK_pure (awake_ok) rfl (Sub.of_eq (by first | rfl | simp -implicitDefEqProofs only [go_sem])) ?_
    simp -implicitDefEqProofs only [go_sem]
    refine fnPost_ret tok ?_
    simp -implicitDefEqProofs only [go_sem, Try.results4]
  · have he : togE f g = 0 := by simp only [togE, if_pos c0, hl, if_neg h5]; rfl
    have hR : togR f g = togF f g f.acts.length (keepD f g f.acts.length) := by simp only [togR, he, if_true]
    have hP : togP f g = togL f g f.acts.length (keepD f g f.acts.length) := by simp only [togP, he, if_true]
    have htS : (togR f g).Small := hR ▸ togF_small hv hw hf _
    have hpl : tp.length * 16 ≤ 140737488351232 := by rw [htp, hP, List.length_map]; exact hll
    have hgt : ¬ ((((togL f g f.acts.length (keepD f g f.acts.length)).length : Nat) : Int) > 500) := by omega
    simp -implicitDefEqProofs only [go_sem, hn3, not_false_eq_true, hn7, hn8, Fa.av, Fa.cells, iA, hln, hgt, decide_false]
    refine AW.draw tok hmix ⟨[], [], [], false⟩ (by kernel_rfl) (Has.of_sub (List.nil_sublist _)) ?_
    simp -implicitDefEqProofs only [go_sem, hn3, not_false_eq_true, hn7, hn8]
    refine opK_pure (Copy_ok f hf) rfl (Sub.of_eq (by first | rfl | simp -implicitDefEqProofs only [go_sem])) ?_
    simp -implicitDefEqProofs only [go_sem, hn3, not_false_eq_true, hn7, hn8]
    refine opK_pure (Copy_ok g hg) rfl (Sub.of_eq (by first | rfl | simp -implicitDefEqProofs only [go_sem])) ?_
    simp -implicitDefEqProofs only [go_sem, hn3, not_false_eq_true, hn7, hn8]
    refine opK_pure (Together_ok f g hf hg) rfl (Sub.of_eq (by first | rfl | simp -implicitDefEqProofs only [go_sem])) ?_
    simp -implicitDefEqProofs only [go_sem, hn3, not_false_eq_true, hn7, hn8, Fa.av, Fa.cells, iA]
    refine newK_intro fun n10 hn10 => ?_
    try simp -implicitDefEqProofs only [hset, List.map_append, List.map_cons, List.map_nil, List.cons_append, List.nil_append, List.mem_cons, List.mem_append, List.not_mem_nil, or_false, not_or] at hn10
    simp -implicitDefEqProofs only [go_sem, hn3, not_false_eq_true, hn7, hn8, hn10, Fa.av, Fa.cells, iA]
    refine opK_pure (Copy_ok f hf) rfl (Sub.of_eq (by first | rfl | simp -implicitDefEqProofs only [go_sem])) ?_
    simp -implicitDefEqProofs only [go_sem, hn3, not_false_eq_true, hn7, hn8, hn10, Fa.av, Fa.cells, iA]
    refine opK_pure (Other_ok f hf) rfl (Sub.of_eq (by first | rfl | simp -implicitDefEqProofs only [go_sem])) ?_
    simp -implicitDefEqProofs only [go_sem, hn3, not_false_eq_true, hn7, hn8, hn10, Fa.av, Fa.cells, iA]
    refine newK_intro fun n13 hn13 => ?_
    try simp -implicitDefEqProofs only [hset, List.map_append, List.map_cons, List.map_nil, List.cons_append, List.nil_append, List.mem_cons, List.mem_append, List.not_mem_nil, or_false, not_or] at hn13
    simp -implicitDefEqProofs only [go_sem, hn3, not_false_eq_true, hn7, hn8, hn10, hn13, hoE, h120, decide_true]
    refine opK_pure (Same_ok (otherF f) (otherF f) hoS hoS) rfl (Sub.of_eq (by rw [hoF]; rfl)) ?_
    simp -implicitDefEqProofs only [go_sem, hn3, not_false_eq_true, hn7, hn8, hn10, hn13, beq_self, he, decide_true]
    refine opK_pure (Same_ok (togR f g) (togR f g) htS htS) rfl (Sub.of_eq (by rw [hR]; rfl)) ?_
    simp -implicitDefEqProofs only [go_sem, hn3, not_false_eq_true, hn7, hn8, hn10, hn13, beq_self]
    refine opK_pure (SamePairs_ok tp tp hpl hpl) rfl (Sub.of_eq (by rw [← hP, hqp]; rfl)) ?_
    simp -implicitDefEqProofs only [go_sem, hn3, not_false_eq_true, hn7, hn8, hn10, hn13, decide_true]
    refine opK_pure (awake_ok) rfl (Sub.of_eq (by first | rfl | simp -implicitDefEqProofs only [go_sem])) ?_
    simp -implicitDefEqProofs only [go_sem]
    refine fnPost_ret tok ?_
    simp -implicitDefEqProofs only [go_sem, Try.results4]

theorem FaceTogether_fc (xs : List AV) (h : ShAs TT0 [25, 25] xs) : Fc Try.prog 4 xs [] fun x _ => x = abool true := by
  cases h with
  | cons h1 h =>
  cases h with
  | cons h2 h =>
  cases h
  obtain ⟨f, hf, rfl⟩ := shA_face h1
  obtain ⟨g, hg, rfl⟩ := shA_face h2
  exact FaceTogether_ok f g hf hg
end Go.Proofs.Ytebbiciepbbhkaa
/- Chapter 12, part Ts: pairs that fit; steps along; lists of sets. -/
namespace Go.Proofs.Ytebbiciepbbhkaa
open Go Go.NS

/-- f has an action of s in x that g has not in y. -/
def lackB (f g : Fa) (n s x y : Nat) : Bool := (bits n s).any fun a => decide (f.at' x a ≥ 0) && decide (g.at' y a < 0)
/-- The state x of f refines the state y of g, by what they have. -/
def fitB (f g : Fa) (n : Nat) (p : Pr) : Bool := !lackB g f n g.iN p.2 p.1 && !lackB f g n f.oN p.1 p.2

theorem lack_iff {f g : Fa} {n s x y : Nat} : lackB f g n s x y = true ↔ ∃ a, a < n ∧ s.testBit a = true ∧ f.at' x a ≥ 0 ∧ g.at' y a < 0 := by
  simp only [lackB, List.any_eq_true, bits, List.mem_filter, List.mem_range, Bool.and_eq_true, decide_eq_true_eq, and_assoc]

theorem lack_bits (f g : Fa) (n s x y : Nat) : decide (nAndNot (f.can x n &&& s) (g.can y n) = 0) = !lackB f g n s x y := by
  have key : nAndNot (f.can x n &&& s) (g.can y n) = 0 ↔ ∀ a, a < n → s.testBit a = true → f.at' x a ≥ 0 → ¬ g.at' y a < 0 := by
    constructor
    · intro h a ha hb h1 h2
      have : (nAndNot (f.can x n &&& s) (g.can y n)).testBit a = true := by
        rw [nAndNot_bit, Nat.testBit_and, f.can_bit, g.can_bit]
        have h3 : ¬ g.at' y a ≥ 0 := by omega
        simp [ha, h1, hb, h3]
      rw [h] at this; simp at this
    · intro h
      apply Nat.eq_of_testBit_eq
      intro a
      rw [Nat.zero_testBit, nAndNot_bit, Nat.testBit_and, f.can_bit, g.can_bit]
      by_cases ha : a < n
      · by_cases h1 : f.at' x a ≥ 0
        · by_cases h2 : s.testBit a = true
          · have := h a ha h2 h1
            have h4 : g.at' y a ≥ 0 := by omega
            simp [ha, h4]
          · simp [h2]
        · simp [h1]
      · simp [ha]
  by_cases h : lackB f g n s x y = true
  · rw [h]
    obtain ⟨a, h1, h2, h3, h4⟩ := lack_iff.1 h
    simp only [Bool.not_true, decide_eq_false_iff_not]
    exact fun e => key.1 e a h1 h2 h3 h4
  · have h' : lackB f g n s x y = false := by simpa using h
    rw [h']
    simp only [Bool.not_false, decide_eq_true_eq]
    exact key.2 fun a h1 h2 h3 h4 => h (lack_iff.2 ⟨a, h1, h2, h3, h4⟩)

/-- good of the reference. -/
theorem good_ok (f g : Fa) {n : Nat} (hf : f.Val n) (hg : g.Val n) (p : Pr) (hp : f.In g p) : Fp Try.prog 60 [f.av, g.av, pA p] (abool (fitB f g n p)) := by
  have hp8 := pow8 hf.n8
  have hx := hp.1
  have hy := hp.2
  have c1 := f.can_lt p.1 n
  have c2 := g.can_lt p.2 n
  have o1 := hf.olt; have i2 := hg.ilt
  have l1 : g.can p.2 n &&& g.iN < 2 ^ n := Nat.and_lt_two_pow _ i2
  have l2 : f.can p.1 n &&& f.oN < 2 ^ n := Nat.and_lt_two_pow _ o1
  have e1 : bit2 .and .i64 ((g.can p.2 n : Nat) : Int) g.inn = ((g.can p.2 n &&& g.iN : Nat) : Int) := by rw [hg.inn]; exact bit2_and _ _ (by omega) (by omega)
  have e2 : bit2 .and .i64 ((f.can p.1 n : Nat) : Int) f.out = ((f.can p.1 n &&& f.oN : Nat) : Int) := by rw [hf.out]; exact bit2_and _ _ (by omega) (by omega)
  have e3 := bit2_andNot (g.can p.2 n &&& g.iN) (f.can p.1 n) (by omega) (by omega)
  have e4 := bit2_andNot (f.can p.1 n &&& f.oN) (g.can p.2 n) (by omega) (by omega)
  have s1 : decide (((nAndNot (g.can p.2 n &&& g.iN) (f.can p.1 n) : Nat) : Int) = 0) = !lackB g f n g.iN p.2 p.1 := by rw [← lack_bits, decide_eq_decide]; omega
  have s2 : decide (((nAndNot (f.can p.1 n &&& f.oN) (g.can p.2 n) : Nat) : Int) = 0) = !lackB f g n f.oN p.1 p.2 := by rw [← lack_bits, decide_eq_decide]; omega
  refine Fp.of_vc tok Try.func60 rfl (by decide) ?_
  simp -implicitDefEqProofs only [go_sem, Try.ntmps60, Fa.av, Fa.cells, iA, pA]
  refine newK_intro fun n1 hn1 => ?_
  try simp -implicitDefEqProofs only [hset, List.map_append, List.map_cons, List.map_nil, List.cons_append, List.nil_append, List.mem_cons, List.mem_append, List.not_mem_nil, or_false, not_or] at hn1
  simp -implicitDefEqProofs only [go_sem]
  refine newK_intro fun n2 hn2 => ?_
  try simp -implicitDefEqProofs only [hset, List.map_append, List.map_cons, List.map_nil, List.cons_append, List.nil_append, List.mem_cons, List.mem_append, List.not_mem_nil, or_false, not_or] at hn2
  simp -implicitDefEqProofs only [go_sem, hn2]
  refine newK_intro fun n3 hn3 => ?_
  try simp -implicitDefEqProofs only [hset, List.map_append, List.map_cons, List.map_nil, List.cons_append, List.nil_append, List.mem_cons, List.mem_append, List.not_mem_nil, or_false, not_or] at hn3
  simp -implicitDefEqProofs only [go_sem, hn3]
  refine AW.draw tok hmix ⟨[], [], [], false⟩ (by kernel_rfl) (Has.of_sub (List.nil_sublist _)) ?_
  simp -implicitDefEqProofs only [go_sem, hn3, hn2]
  refine opK_pure (Can_ok f hf p.1 hx) rfl (Sub.of_eq (by first | rfl | simp -implicitDefEqProofs only [go_sem])) ?_
  simp -implicitDefEqProofs only [go_sem, hn3, hn2]
  refine opK_pure (Can_ok g hg p.2 hy) rfl (Sub.of_eq (by first | rfl | simp -implicitDefEqProofs only [go_sem])) ?_
  simp -implicitDefEqProofs only [go_sem, iA, hn2, e1, e3, s1]
  cases hb : lackB g f n g.iN p.2 p.1 with
  | true =>
    simp -implicitDefEqProofs only [go_sem, hb]
    refine fnPost_ret tok ?_
    simp -implicitDefEqProofs only [go_sem, Try.results60, fitB, hb, Bool.not_true, Bool.false_and]
  | false =>
    simp -implicitDefEqProofs only [go_sem, hb, hn2, e2, e4, s2]
    refine fnPost_ret tok ?_
    simp -implicitDefEqProofs only [go_sem, Try.results60, fitB, hb, Bool.not_false, Bool.true_and]

/-- The actions that are followed from a pair. -/
def folN (f g : Fa) (n : Nat) (p : Pr) : Nat := (g.can p.2 n &&& g.iN) ||| (f.can p.1 n &&& f.oN)
theorem folN_lt {f g : Fa} {n : Nat} (hf : f.Val n) (hg : g.Val n) (p : Pr) : folN f g n p < 2 ^ n := Nat.or_lt_two_pow (Nat.and_lt_two_pow _ hg.ilt) (Nat.and_lt_two_pow _ hf.olt)

/-- follows of the reference. -/
theorem follows_ok (f g : Fa) {n : Nat} (hf : f.Val n) (hg : g.Val n) (p : Pr) (hp : f.In g p) : Fp Try.prog 62 [f.av, g.av, pA p] (iA (folN f g n p : Nat)) := by
  have hp8 := pow8 hf.n8
  have hx := hp.1
  have hy := hp.2
  have c1 := f.can_lt p.1 n
  have c2 := g.can_lt p.2 n
  have o1 := hf.olt; have i2 := hg.ilt
  have l1 : g.can p.2 n &&& g.iN < 2 ^ n := Nat.and_lt_two_pow _ i2
  have l2 : f.can p.1 n &&& f.oN < 2 ^ n := Nat.and_lt_two_pow _ o1
  have e1 : bit2 .and .i64 ((g.can p.2 n : Nat) : Int) g.inn = ((g.can p.2 n &&& g.iN : Nat) : Int) := by rw [hg.inn]; exact bit2_and _ _ (by omega) (by omega)
  have e2 : bit2 .and .i64 ((f.can p.1 n : Nat) : Int) f.out = ((f.can p.1 n &&& f.oN : Nat) : Int) := by rw [hf.out]; exact bit2_and _ _ (by omega) (by omega)
  have e3 : bit2 .or .i64 ((g.can p.2 n &&& g.iN : Nat) : Int) ((f.can p.1 n &&& f.oN : Nat) : Int) = ((folN f g n p : Nat) : Int) := bit2_or _ _ (by omega) (by omega)
  refine Fp.of_vc tok Try.func62 rfl (by decide) ?_
  simp -implicitDefEqProofs only [go_sem, Try.ntmps62, Fa.av, Fa.cells, iA, pA]
  refine newK_intro fun n1 hn1 => ?_
  try simp -implicitDefEqProofs only [hset, List.map_append, List.map_cons, List.map_nil, List.cons_append, List.nil_append, List.mem_cons, List.mem_append, List.not_mem_nil, or_false, not_or] at hn1
  simp -implicitDefEqProofs only [go_sem]
  refine newK_intro fun n2 hn2 => ?_
  try simp -implicitDefEqProofs only [hset, List.map_append, List.map_cons, List.map_nil, List.cons_append, List.nil_append, List.mem_cons, List.mem_append, List.not_mem_nil, or_false, not_or] at hn2
  simp -implicitDefEqProofs only [go_sem, hn2]
  refine newK_intro fun n3 hn3 => ?_
  try simp -implicitDefEqProofs only [hset, List.map_append, List.map_cons, List.map_nil, List.cons_append, List.nil_append, List.mem_cons, List.mem_append, List.not_mem_nil, or_false, not_or] at hn3
  simp -implicitDefEqProofs only [go_sem, hn3]
  refine AW.draw tok hmix ⟨[], [], [], false⟩ (by kernel_rfl) (Has.of_sub (List.nil_sublist _)) ?_
  simp -implicitDefEqProofs only [go_sem, hn3, hn2]
  refine opK_pure (Can_ok g hg p.2 hy) rfl (Sub.of_eq (by first | rfl | simp -implicitDefEqProofs only [go_sem])) ?_
  simp -implicitDefEqProofs only [go_sem, hn3, hn2, iA, e1]
  refine opK_pure (Can_ok f hf p.1 hx) rfl (Sub.of_eq (by first | rfl | simp -implicitDefEqProofs only [go_sem])) ?_
  simp -implicitDefEqProofs only [go_sem, iA, hn2, hn3, e1, e2, e3]
  refine fnPost_ret tok ?_
  simp -implicitDefEqProofs only [go_sem, Try.results62, iA]

/-- List of the reference. -/
theorem List_ok (n s : Nat) (hn : n ≤ 8) (hs : s < 2 ^ n) : Fp Try.prog 61 [iA n, iA s] (intsA ((bits n s).map fun (a : Nat) => (a : Int))) := by
  have hp8 := pow8 hn
  refine Fp.of_vc tok Try.func61 rfl (by decide) ?_
  simp -implicitDefEqProofs only [go_sem, Try.ntmps61, iA]
  refine AW.adopt 5 3 (sz := 1) (by decide) rfl fun nY hnY => ?_
  try simp -implicitDefEqProofs only [hset, List.map_append, List.map_cons, List.map_nil, List.cons_append, List.nil_append, List.mem_cons, List.mem_append, List.not_mem_nil, or_false, not_or] at hnY
  simp -implicitDefEqProofs only [go_sem]
  refine AW.loopP tok (α := Nat × Nat) (fun a => slots 20 [(0, iA n), (1, iA s), (4, .raw (.slice none 0 0)), (5, .own nY a.2), (7, iA n), (8, iA a.1)]) (fun a => [(nY, .row 3 1 a.2 ((bits a.1 s).map fun (a : Nat) => iA (a : Int)))]) (fun a => a.1 ≤ n) (fun a => n - a.1) (0, 0) (Nat.zero_le _) (by simp -implicitDefEqProofs only [go_sem, iA]) (Has.refl _) ?_
  rintro ⟨a, v⟩ ha
  simp only at ha
  simp -implicitDefEqProofs only [go_sem, iA]
  by_cases han : a < n
  · have hbit : hasI (s : Int) a = s.testBit a := hasI_nat _ _ (by omega) (by omega)
    simp -implicitDefEqProofs only [go_sem, dlt_true han]
    refine opK_pure (Has_ok (s : Int) a) rfl (Sub.of_eq (by first | rfl | simp -implicitDefEqProofs only [go_sem])) ?_
    simp -implicitDefEqProofs only [go_sem, hbit]
    by_cases c : s.testBit a = true
    · simp -implicitDefEqProofs only [go_sem, c]
      refine opK_lit tok T44 rfl T3 (by decide) (by simp -implicitDefEqProofs only [go_sem, zrep, List.flatten_cons, List.flatten_nil]; rfl) ?_
      simp -implicitDefEqProofs only [go_sem]
      have hbl : (bits a s).length ≤ a := by have := List.length_filter_le s.testBit (List.range a); simpa [bits] using this
      refine opK_append tok rfl rfl (by simp -implicitDefEqProofs only [go_sem, ]; rfl) rfl T44 rfl T3 rfl (by decide) (by simp only [List.length_map, Nat.div_one, List.length_cons, List.length_nil]; omega) fun v2 => ?_
      simp -implicitDefEqProofs only [go_sem, wrap_up han (by omega)]
      refine ⟨(a + 1, v2), han, by simp only; omega, by simp -implicitDefEqProofs only [go_sem], ?_⟩
      rw [bits_succ_true c, List.map_append]
      exact Has.refl _
    · have c' : s.testBit a = false := by simpa using c
      simp -implicitDefEqProofs only [go_sem, c', wrap_up han (by omega)]
      refine ⟨(a + 1, v), han, by simp only; omega, by simp -implicitDefEqProofs only [go_sem], ?_⟩
      rw [bits_succ_false c']
      exact Has.refl _
  · obtain rfl : n = a := by omega
    have e1 : decide ((n : Int) < (n : Int)) = false := by simp
    simp -implicitDefEqProofs only [go_sem, e1]
    refine fnPost_freeze (xs := (bits n s).map fun (a : Nat) => iA (a : Int)) nY (by simp -implicitDefEqProofs only [go_sem]; rfl) ?_
    simp -implicitDefEqProofs only [go_sem]
    refine fnPost_ret tok ?_
    simp -implicitDefEqProofs only [go_sem, Try.results61, intsA, List.map_map]
    rfl

/-- along of package face. -/
theorem along_ok (f g : Fa) (p : Pr) (a : Nat) (hp : f.In g p) (ha : a < (f.sts[p.1]'hp.1).length) (hb : a < (g.sts[p.2]'hp.2).length) :
    Fp Try.prog 69 [f.av, g.av, pA p, iA a] (.tup [pairA (f.at' p.1 a, g.at' p.2 a), abool (decide (f.at' p.1 a ≥ 0) && decide (g.at' p.2 a ≥ 0))]) := by
  have hx := hp.1
  have hy := hp.2
  obtain ⟨x1, x2⟩ := at_cell hx ha
  obtain ⟨y1, y2⟩ := at_cell hy hb
  refine Fp.of_vc tok Try.func69 rfl (by decide) ?_
  simp -implicitDefEqProofs only [go_sem, Try.ntmps69, Fa.av, Fa.cells, pA, iA]
  refine newK_intro fun n1 hn1 => ?_
  try simp -implicitDefEqProofs only [hset, List.map_append, List.map_cons, List.map_nil, List.cons_append, List.nil_append, List.mem_cons, List.mem_append, List.not_mem_nil, or_false, not_or] at hn1
  simp -implicitDefEqProofs only [go_sem]
  refine newK_intro fun n2 hn2 => ?_
  try simp -implicitDefEqProofs only [hset, List.map_append, List.map_cons, List.map_nil, List.cons_append, List.nil_append, List.mem_cons, List.mem_append, List.not_mem_nil, or_false, not_or] at hn2
  simp -implicitDefEqProofs only [go_sem, hn2]
  refine newK_intro fun n3 hn3 => ?_
  try simp -implicitDefEqProofs only [hset, List.map_append, List.map_cons, List.map_nil, List.cons_append, List.nil_append, List.mem_cons, List.mem_append, List.not_mem_nil, or_false, not_or] at hn3
  simp -implicitDefEqProofs only [go_sem, hn3]
  refine newK_intro fun n4 hn4 => ?_
  try simp -implicitDefEqProofs only [hset, List.map_append, List.map_cons, List.map_nil, List.cons_append, List.nil_append, List.mem_cons, List.mem_append, List.not_mem_nil, or_false, not_or] at hn4
  simp -implicitDefEqProofs only [go_sem, hn2, hn3, hn4, hx, hy, ha, hb, x1, x2, y1, y2, intsA, iA]
  refine AW.draw tok hmix ⟨[], [], [], false⟩ (by kernel_rfl) (Has.of_sub (List.nil_sublist _)) ?_
  simp -implicitDefEqProofs only [go_sem, hn2, hn3, hn4, hx, hy, ha, hb, x1, x2, y1, y2, intsA, iA]
  refine newK_intro fun n5 hn5 => ?_
  try simp -implicitDefEqProofs only [hset, List.map_append, List.map_cons, List.map_nil, List.cons_append, List.nil_append, List.mem_cons, List.mem_append, List.not_mem_nil, or_false, not_or] at hn5
  simp -implicitDefEqProofs only [go_sem, hn2, hn3, hn4, hx, hy, ha, hb, x1, x2, y1, y2, intsA, iA, hn5]
  refine AW.drawF tok hmix [] [35, 36] [(n5, .cells 34 [.raw (.int .i64 (f.at' p.1 a)), .raw (.int .i64 (g.at' p.2 a))])] (by kernel_rfl) ?_ ?_
  · exact List.Sublist.cons _ (List.Sublist.cons _ (List.Sublist.cons _ (List.Sublist.cons _ (List.Sublist.refl _))))
  simp -implicitDefEqProofs only [go_sem, hn2, hn3, hn4, hx, hy, ha, hb, x1, x2, y1, y2, intsA, iA, hn5]
  have hk : ∀ x y : Int, List.Sublist ([(n5, .cells 34 [.raw (.int .i64 x), .raw (.int .i64 y)])] : AHeap) [(n1, .cells 25 [strsA f.acts, .raw (.int .i64 f.inn), .raw (.int .i64 f.out), .imm 1 (f.sts.map intsA)]), (n2, .cells 25 [strsA g.acts, .raw (.int .i64 g.inn), .raw (.int .i64 g.out), .imm 1 (g.sts.map intsA)]), (n3, .cells 34 [.raw (.int .i64 p.1), .raw (.int .i64 p.2)]), (n4, .cells 34 [.raw (.int .i64 x), .raw (.int .i64 y)]), (n5, .cells 34 [.raw (.int .i64 x), .raw (.int .i64 y)])] := fun x y =>
    List.Sublist.cons _ (List.Sublist.cons _ (List.Sublist.cons _ (List.Sublist.cons _ (List.Sublist.refl _))))
  by_cases c : f.at' p.1 a ≥ 0
  · simp -implicitDefEqProofs only [go_sem, c, decide_true, hn2, hn3, hn4, hx, hy, ha, hb, x1, x2, y1, y2, intsA, iA, hn5]
    refine ⟨by rw [keepH_sub]; exact hk _ _, ?_⟩
    refine fnPost_ret tok ?_
    simp -implicitDefEqProofs only [go_sem, Try.results69, pairA, c, decide_true, hn4, hn5, iA]
  · simp -implicitDefEqProofs only [go_sem, c, decide_false, hn2, hn3, hn4, hx, hy, ha, hb, x1, x2, y1, y2, intsA, iA, hn5]
    refine ⟨by rw [keepH_sub]; exact hk _ _, ?_⟩
    refine fnPost_ret tok ?_
    simp -implicitDefEqProofs only [go_sem, Try.results69, pairA, c, decide_false, Bool.false_and, hn4, hn5, iA]
end Go.Proofs.Ytebbiciepbbhkaa
/- Chapter 12, part Va: pairs that fit, by the program. -/
namespace Go.Proofs.Ytebbiciepbbhkaa
open Go Go.NS

/-- fit of package face. -/
theorem fit_ok (f g : Fa) {n : Nat} (hf : f.Val n) (hg : g.Val n) (hin : f.iN = g.iN) (p : Pr) (hp : f.In g p) : Fp Try.prog 67 [f.av, g.av, pA p] (abool (fitB f g n p)) := by
  have hp8 := pow8 hf.n8
  have hx := hp.1
  have hy := hp.2
  have h8 := hf.n8
  have o1 := hf.olt
  have i1 := hf.ilt
  have hrx := hf.row p.1 hx
  have hry := hg.row p.2 hy
  have ex : (f.sts.map intsA)[p.1]? = some (intsA f.sts[p.1]) := by simp [hx]
  have ey : (g.sts.map intsA)[p.2]? = some (intsA g.sts[p.2]) := by simp [hy]
  have ei : f.inn = (f.iN : Int) := hf.inn
  have eo : f.out = (f.oN : Int) := hf.out
  refine Fp.of_vc tok Try.func67 rfl (by decide) ?_
  simp -implicitDefEqProofs only [go_sem, Try.ntmps67, Fa.av, Fa.cells, iA, pA, strsA]
  refine newK_intro fun n1 hn1 => ?_
  try simp -implicitDefEqProofs only [hset, List.map_append, List.map_cons, List.map_nil, List.cons_append, List.nil_append, List.mem_cons, List.mem_append, List.not_mem_nil, or_false, not_or] at hn1
  simp -implicitDefEqProofs only [go_sem]
  refine newK_intro fun n2 hn2 => ?_
  try simp -implicitDefEqProofs only [hset, List.map_append, List.map_cons, List.map_nil, List.cons_append, List.nil_append, List.mem_cons, List.mem_append, List.not_mem_nil, or_false, not_or] at hn2
  simp -implicitDefEqProofs only [go_sem]
  refine newK_intro fun n3 hn3 => ?_
  try simp -implicitDefEqProofs only [hset, List.map_append, List.map_cons, List.map_nil, List.cons_append, List.nil_append, List.mem_cons, List.mem_append, List.not_mem_nil, or_false, not_or] at hn3
  simp -implicitDefEqProofs only [go_sem]
  refine newK_intro fun n4 hn4 => ?_
  try simp -implicitDefEqProofs only [hset, List.map_append, List.map_cons, List.map_nil, List.cons_append, List.nil_append, List.mem_cons, List.mem_append, List.not_mem_nil, or_false, not_or] at hn4
  simp -implicitDefEqProofs only [go_sem, hn2, hn3, hn4]
  refine opK_call [] [(n1, .cells 25 [.imm 1 (f.acts.map sA), .raw (.int .i64 f.inn), .raw (.int .i64 f.out), .imm 1 (f.sts.map intsA)]), (n2, .cells 25 [.imm 1 (g.acts.map sA), .raw (.int .i64 g.inn), .raw (.int .i64 g.out), .imm 1 (g.sts.map intsA)]), (n3, .cells 34 [.raw (.int .i64 p.1), .raw (.int .i64 p.2)]), (n4, .cells 4 [abool false])] rfl (In_ok ((f.iN : Nat) : Int)) rfl (Sub.of_eq (by simp -implicitDefEqProofs only [go_sem, ei, iA])) (List.Perm.refl _) ?_
  rintro c H1' ⟨m1, rfl, rfl⟩ hm1
  simp -implicitDefEqProofs only [go_sem, hn2, hn3, hn4]
  refine AW.rangeP tok [(n1, .cells 25 [.imm 1 (f.acts.map sA), .raw (.int .i64 f.inn), .raw (.int .i64 f.out), .imm 1 (f.sts.map intsA)]), (n2, .cells 25 [.imm 1 (g.acts.map sA), .raw (.int .i64 g.inn), .raw (.int .i64 g.out), .imm 1 (g.sts.map intsA)]), (n3, .cells 34 [.raw (.int .i64 p.1), .raw (.int .i64 p.2)]), (n4, .cells 4 [abool false])] [(m1, .cells 3 [iA ((f.iN : Nat) : Int)])] rfl (In_iter n f.iN (by omega) i1 m1) (List.Perm.refl _) (fun i hi => by simp)
    (fun i Hb => Hb = [(n1, .cells 25 [.imm 1 (f.acts.map sA), .raw (.int .i64 f.inn), .raw (.int .i64 f.out), .imm 1 (f.sts.map intsA)]), (n2, .cells 25 [.imm 1 (g.acts.map sA), .raw (.int .i64 g.inn), .raw (.int .i64 g.out), .imm 1 (g.sts.map intsA)]), (n3, .cells 34 [.raw (.int .i64 p.1), .raw (.int .i64 p.2)]), (n4, .cells 4 [abool false])] ∧ ∀ j (h : j < (bits n f.iN).length), j < i → ¬ (g.at' p.2 (bits n f.iN)[j] ≥ 0 ∧ f.at' p.1 (bits n f.iN)[j] < 0))
    (fun e Hb => e = .ret ∧ Hb = [(n1, .cells 25 [.imm 1 (f.acts.map sA), .raw (.int .i64 f.inn), .raw (.int .i64 f.out), .imm 1 (f.sts.map intsA)]), (n2, .cells 25 [.imm 1 (g.acts.map sA), .raw (.int .i64 g.inn), .raw (.int .i64 g.out), .imm 1 (g.sts.map intsA)]), (n3, .cells 34 [.raw (.int .i64 p.1), .raw (.int .i64 p.2)]), (n4, .cells 4 [abool false])] ∧ fitB f g n p = false)
    ⟨rfl, fun j _ hj => by omega⟩ ?_ ?_ ?_
  · rintro i hi Hb l ⟨rfl, hall⟩
    have hi' : i < (bits n f.iN).length := by simpa using hi
    have hmem : (bits n f.iN)[i] ∈ bits n f.iN := List.getElem_mem hi'
    have hinn : (bits n f.iN)[i] < n := by have := hmem; simp only [bits, List.mem_filter, List.mem_range] at this; exact this.1
    simp only [List.getElem_map]
    generalize ha : (bits n f.iN)[i] = a at hinn hmem
    obtain ⟨_, x2⟩ := at_cell (f := f) (x := p.1) (a := a) hx (by omega)
    obtain ⟨_, y2⟩ := at_cell (f := g) (x := p.2) (a := a) hy (by omega)
    simp -implicitDefEqProofs only [go_sem, hx, hy, ex, ey, hrx, hry, hinn, x2, y2, intsA, iA, hn2, hn3, hn4]
    by_cases c1 : g.at' p.2 a ≥ 0
    · by_cases c2 : f.at' p.1 a < 0
      · simp -implicitDefEqProofs only [go_sem, c1, c2, decide_true, hx, hy, ex, ey, hrx, hry, hinn, x2, y2, intsA, iA, hn2, hn3, hn4]
        refine ⟨_, List.Sublist.refl _, rfl, rfl, ?_⟩
        have : lackB g f n g.iN p.2 p.1 = true := lack_iff.2 ⟨a, hinn, by rw [← hin]; simp only [bits, List.mem_filter] at hmem; exact hmem.2, c1, c2⟩
        simp [fitB, this]
      · simp -implicitDefEqProofs only [go_sem, c1, c2, decide_true, decide_false, hx, hy, ex, ey, hrx, hry, hinn, x2, y2, intsA, iA, hn2, hn3, hn4]
        refine ⟨_, List.Sublist.refl _, rfl, fun j hj hji => ?_⟩
        by_cases e : j = i
        · subst e; rw [ha]; omega
        · exact hall j hj (by omega)
    · simp -implicitDefEqProofs only [go_sem, c1, decide_false, hx, hy, ex, ey, hrx, hry, hinn, x2, y2, intsA, iA, hn2, hn3, hn4]
      refine ⟨_, List.Sublist.refl _, rfl, fun j hj hji => ?_⟩
      by_cases e : j = i
      · subst e; rw [ha]; omega
      · exact hall j hj (by omega)
  rotate_left
  · rintro e c Hb hj ⟨rfl, rfl, hs⟩
    simp only [jumpOf, Option.some.injEq] at hj
    subst hj
    simp -implicitDefEqProofs only [go_sem]
    refine fnPost_ret tok ?_
    simp -implicitDefEqProofs only [go_sem, Try.results67, hn2, hn3, hn4, hs]
  rintro Hb ⟨rfl, hall⟩
  have e1 : lackB g f n g.iN p.2 p.1 = false := by
    rw [Bool.eq_false_iff]
    intro h
    rw [← hin] at h
    simp only [lackB, List.any_eq_true, Bool.and_eq_true, decide_eq_true_eq] at h
    obtain ⟨a, ha, h1, h2⟩ := h
    obtain ⟨j, hj, rfl⟩ := List.getElem_of_mem ha
    exact hall j hj (by simpa using hj) ⟨h1, h2⟩
  clear hall
  simp -implicitDefEqProofs only [go_sem, hn2, hn3, hn4]
  refine opK_call [] [(n1, .cells 25 [.imm 1 (f.acts.map sA), .raw (.int .i64 f.inn), .raw (.int .i64 f.out), .imm 1 (f.sts.map intsA)]), (n2, .cells 25 [.imm 1 (g.acts.map sA), .raw (.int .i64 g.inn), .raw (.int .i64 g.out), .imm 1 (g.sts.map intsA)]), (n3, .cells 34 [.raw (.int .i64 p.1), .raw (.int .i64 p.2)]), (n4, .cells 4 [abool false])] rfl (In_ok ((f.oN : Nat) : Int)) rfl (Sub.of_eq (by simp -implicitDefEqProofs only [go_sem, eo, iA])) (List.Perm.refl _) ?_
  rintro c H1' ⟨m2, rfl, rfl⟩ hm2
  simp -implicitDefEqProofs only [go_sem, hn2, hn3, hn4]
  refine AW.rangeP tok [(n1, .cells 25 [.imm 1 (f.acts.map sA), .raw (.int .i64 f.inn), .raw (.int .i64 f.out), .imm 1 (f.sts.map intsA)]), (n2, .cells 25 [.imm 1 (g.acts.map sA), .raw (.int .i64 g.inn), .raw (.int .i64 g.out), .imm 1 (g.sts.map intsA)]), (n3, .cells 34 [.raw (.int .i64 p.1), .raw (.int .i64 p.2)]), (n4, .cells 4 [abool false])] [(m2, .cells 3 [iA ((f.oN : Nat) : Int)])] rfl (In_iter n f.oN (by omega) o1 m2) (List.Perm.refl _) (fun i hi => by simp)
    (fun i Hb => Hb = [(n1, .cells 25 [.imm 1 (f.acts.map sA), .raw (.int .i64 f.inn), .raw (.int .i64 f.out), .imm 1 (f.sts.map intsA)]), (n2, .cells 25 [.imm 1 (g.acts.map sA), .raw (.int .i64 g.inn), .raw (.int .i64 g.out), .imm 1 (g.sts.map intsA)]), (n3, .cells 34 [.raw (.int .i64 p.1), .raw (.int .i64 p.2)]), (n4, .cells 4 [abool false])] ∧ ∀ j (h : j < (bits n f.oN).length), j < i → ¬ (f.at' p.1 (bits n f.oN)[j] ≥ 0 ∧ g.at' p.2 (bits n f.oN)[j] < 0))
    (fun e Hb => e = .ret ∧ Hb = [(n1, .cells 25 [.imm 1 (f.acts.map sA), .raw (.int .i64 f.inn), .raw (.int .i64 f.out), .imm 1 (f.sts.map intsA)]), (n2, .cells 25 [.imm 1 (g.acts.map sA), .raw (.int .i64 g.inn), .raw (.int .i64 g.out), .imm 1 (g.sts.map intsA)]), (n3, .cells 34 [.raw (.int .i64 p.1), .raw (.int .i64 p.2)]), (n4, .cells 4 [abool false])] ∧ fitB f g n p = false)
    ⟨rfl, fun j _ hj => by omega⟩ ?_ ?_ ?_
  · rintro i hi Hb l ⟨rfl, hall⟩
    have hi' : i < (bits n f.oN).length := by simpa using hi
    have hmem : (bits n f.oN)[i] ∈ bits n f.oN := List.getElem_mem hi'
    have hinn : (bits n f.oN)[i] < n := by have := hmem; simp only [bits, List.mem_filter, List.mem_range] at this; exact this.1
    simp only [List.getElem_map]
    generalize ha : (bits n f.oN)[i] = a at hinn hmem
    obtain ⟨_, x2⟩ := at_cell (f := f) (x := p.1) (a := a) hx (by omega)
    obtain ⟨_, y2⟩ := at_cell (f := g) (x := p.2) (a := a) hy (by omega)
    simp -implicitDefEqProofs only [go_sem, hx, hy, ex, ey, hrx, hry, hinn, x2, y2, intsA, iA, hn2, hn3, hn4]
    by_cases c1 : f.at' p.1 a ≥ 0
    · by_cases c2 : g.at' p.2 a < 0
      · simp -implicitDefEqProofs only [go_sem, c1, c2, decide_true, hx, hy, ex, ey, hrx, hry, hinn, x2, y2, intsA, iA, hn2, hn3, hn4]
        refine ⟨_, List.Sublist.refl _, rfl, rfl, ?_⟩
        have : lackB f g n f.oN p.1 p.2 = true := lack_iff.2 ⟨a, hinn, by simp only [bits, List.mem_filter] at hmem; exact hmem.2, c1, c2⟩
        simp [fitB, this]
      · simp -implicitDefEqProofs only [go_sem, c1, c2, decide_true, decide_false, hx, hy, ex, ey, hrx, hry, hinn, x2, y2, intsA, iA, hn2, hn3, hn4]
        refine ⟨_, List.Sublist.refl _, rfl, fun j hj hji => ?_⟩
        by_cases e : j = i
        · subst e; rw [ha]; omega
        · exact hall j hj (by omega)
    · simp -implicitDefEqProofs only [go_sem, c1, decide_false, hx, hy, ex, ey, hrx, hry, hinn, x2, y2, intsA, iA, hn2, hn3, hn4]
      refine ⟨_, List.Sublist.refl _, rfl, fun j hj hji => ?_⟩
      by_cases e : j = i
      · subst e; rw [ha]; omega
      · exact hall j hj (by omega)
  rotate_left
  · rintro e c Hb hj ⟨rfl, rfl, hs⟩
    simp only [jumpOf, Option.some.injEq] at hj
    subst hj
    simp -implicitDefEqProofs only [go_sem]
    refine fnPost_ret tok ?_
    simp -implicitDefEqProofs only [go_sem, Try.results67, hn2, hn3, hn4, hs]
  rintro Hb ⟨rfl, hall⟩
  have e2 : lackB f g n f.oN p.1 p.2 = false := by
    rw [Bool.eq_false_iff]
    intro h
    simp only [lackB, List.any_eq_true, Bool.and_eq_true, decide_eq_true_eq] at h
    obtain ⟨a, ha, h1, h2⟩ := h
    obtain ⟨j, hj, rfl⟩ := List.getElem_of_mem ha
    exact hall j hj (by simpa using hj) ⟨h1, h2⟩
  simp -implicitDefEqProofs only [go_sem, hn2, hn3, hn4]
  refine fnPost_ret tok ?_
  simp -implicitDefEqProofs only [go_sem, Try.results67, hn2, hn3, hn4, fitB, e1, e2]
end Go.Proofs.Ytebbiciepbbhkaa
/- Chapter 12, part Vb: gaps. -/
namespace Go.Proofs.Ytebbiciepbbhkaa
open Go Go.NS

/-- Two faces that may be compared. -/
structure Cmp (F G : Fa) (n : Nat) : Prop where
  f : F.Val n
  g : G.Val n
  i : F.iN = G.iN
  o : F.oN = G.oN

theorem compared_val {f g : Fa} (h : comparedE f g = 0) : Cmp f g f.acts.length := by
  unfold comparedE at h
  split at h
  · rename_i h1
    obtain ⟨hf, hg, _⟩ := fine_val h1
    split at h
    · rename_i h2
      have a1 := hf.inn; have a2 := hg.inn; have a3 := hf.out; have a4 := hg.out
      exact ⟨hf, hg, by omega, by omega⟩
    · omega
  · rename_i h1; exact absurd h h1

/-- The pair after an action. -/
def alongN (f g : Fa) (p : Pr) (a : Nat) : Option Pr := if 0 ≤ f.at' p.1 a ∧ 0 ≤ g.at' p.2 a then some ((f.at' p.1 a).toNat, (g.at' p.2 a).toNat) else none

theorem alongN_some {f g : Fa} {n : Nat} (hf : f.Val n) (hg : g.Val n) {p q : Pr} (hp : f.In g p) {a : Nat} (ha : a < n) (h : alongN f g p a = some q) :
    f.In g q ∧ f.at' p.1 a = (q.1 : Int) ∧ g.at' p.2 a = (q.2 : Int) := by
  unfold alongN at h
  split at h
  · rename_i hb
    simp only [Option.some.injEq] at h
    have h1 := hf.hi p.1 a hp.1 ha
    have h2 := hg.hi p.2 a hp.2 ha
    subst h
    refine ⟨⟨?_, ?_⟩, ?_, ?_⟩ <;> simp only <;> omega
  · cases h

theorem alongN_none {f g : Fa} {p : Pr} {a : Nat} (h : alongN f g p a = none) : (decide (f.at' p.1 a ≥ 0) && decide (g.at' p.2 a ≥ 0)) = false := by
  unfold alongN at h
  split at h
  · cases h
  · rename_i hb
    rw [Bool.eq_false_iff]
    intro h2
    simp only [Bool.and_eq_true, decide_eq_true_eq] at h2
    exact hb ⟨h2.1, h2.2⟩

/-- What is followed from a pair that fits. -/
theorem follow_iff {f g : Fa} {n : Nat} (C : Cmp f g n) {p : Pr} (hp : f.In g p) (hfit : fitB f g n p = true) {a : Nat} (ha : a < n) : (folN f g n p).testBit a = (alongN f g p a).isSome := by
  simp only [fitB, Bool.and_eq_true, Bool.not_eq_true'] at hfit
  obtain ⟨h1, h2⟩ := hfit
  have k1 : ∀ h : g.iN.testBit a = true, g.at' p.2 a ≥ 0 → ¬ f.at' p.1 a < 0 := fun hb h3 h4 => by
    have := lack_iff.2 ⟨a, ha, hb, h3, h4⟩; rw [h1] at this; cases this
  have k2 : ∀ h : f.oN.testBit a = true, f.at' p.1 a ≥ 0 → ¬ g.at' p.2 a < 0 := fun hb h3 h4 => by
    have := lack_iff.2 ⟨a, ha, hb, h3, h4⟩; rw [h2] at this; cases this
  have o1 := C.f.own p.1 a hp.1 ha
  rw [Nat.testBit_or] at o1
  simp only [folN, Nat.testBit_or, Nat.testBit_and, f.can_bit, g.can_bit, ha, decide_true, Bool.true_and]
  unfold alongN
  rw [C.i] at o1
  by_cases c1 : f.at' p.1 a ≥ 0
  · by_cases c2 : g.at' p.2 a ≥ 0
    · have := o1 c1
      have c3 : 0 ≤ f.at' p.1 a ∧ 0 ≤ g.at' p.2 a := ⟨c1, c2⟩
      rw [if_pos c3]
      simpa [c1, c2] using this
    · have c3 : ¬ (0 ≤ f.at' p.1 a ∧ 0 ≤ g.at' p.2 a) := fun h => c2 h.2
      rw [if_neg c3]
      have : f.oN.testBit a = false := by
        cases h : f.oN.testBit a with
        | false => rfl
        | true => exact absurd (by omega) (k2 h c1)
      simp [c2, this]
  · have c3 : ¬ (0 ≤ f.at' p.1 a ∧ 0 ≤ g.at' p.2 a) := fun h => c1 h.1
    rw [if_neg c3]
    by_cases c2 : g.at' p.2 a ≥ 0
    · have : g.iN.testBit a = false := by
        cases h : g.iN.testBit a with
        | false => rfl
        | true => exact absurd (by omega) (k1 h c2)
      simp [c1, this]
    · simp [c1, c2]

/-- One step of a gap. -/
def gstep (f g : Fa) (n : Nat) (p : Pr) (a : Int) : Option Pr := if 0 ≤ a ∧ a < n ∧ fitB f g n p = true then alongN f g p a.toNat else none
def runG (f g : Fa) (n : Nat) (p : Pr) (l : List Int) : Option Pr := l.foldlM (gstep f g n) p
/-- Is the list a gap? -/
def gapN (f g : Fa) (n : Nat) (l : List Int) : Bool := match runG f g n (0, 0) l with
  | some p => !fitB f g n p
  | none => false

theorem runG_snoc (f g : Fa) (n : Nat) (p : Pr) (l : List Int) (a : Int) : runG f g n p (l ++ [a]) = (runG f g n p l).bind fun q => gstep f g n q a := by
  simp [runG, List.foldlM_append]
theorem runG_cut (f g : Fa) (n : Nat) (p : Pr) (l m : List Int) : runG f g n p (l ++ m) = (runG f g n p l).bind fun q => runG f g n q m := by
  simp [runG, List.foldlM_append]

theorem runG_none {f g : Fa} {n : Nat} {p0 p : Pr} {l : List Int} {i : Nat} (hi : i < l.length) (h : runG f g n p0 (l.take i) = some p) (h1 : gstep f g n p l[i] = none) : runG f g n p0 l = none := by
  have e : l = (l.take i ++ [l[i]]) ++ l.drop (i + 1) := by
    rw [List.append_assoc, List.singleton_append, ← List.drop_eq_getElem_cons hi, List.take_append_drop]
  rw [e, runG_cut, runG_snoc, h, Option.bind_some, h1, Option.bind_none]

theorem runG_all {f g : Fa} {n : Nat} : ∀ {l : List Int} {p q : Pr}, runG f g n p l = some q → (l.all fun a => decide (0 ≤ a) && decide (a < n)) = true
  | [], _, _, _ => rfl
  | a :: l, p, q, h => by
    simp only [runG, List.foldlM_cons, Option.bind_eq_bind, Option.bind_eq_some_iff] at h
    obtain ⟨r, h1, h2⟩ := h
    unfold gstep at h1
    split at h1
    · rename_i hc
      simp only [List.all_cons, hc.1, hc.2.1, decide_true, Bool.and_self, Bool.true_and]
      exact runG_all h2
    · cases h1

set_option maxHeartbeats 1000000 in
/-- gap of package face. -/
theorem gap_ok (f g : Fa) {n : Nat} (C : Cmp f g n) (l : List Int) (hl : l.length * 8 ≤ 140737488351232) : Fp Try.prog 65 [f.av, g.av, intsA l] (abool (gapN f g n l)) := by
  have hf := C.f
  have hg := C.g
  have h8 := hf.n8
  have hp8 := pow8 hf.n8
  have hn := hf.len
  refine Fp.of_vc tok Try.func65 rfl (by decide) ?_
  simp -implicitDefEqProofs only [go_sem, Try.ntmps65, Fa.av, Fa.cells, iA, strsA]
  refine newK_intro fun n3 hn3 => ?_
  try simp -implicitDefEqProofs only [hset, List.map_append, List.map_cons, List.map_nil, List.cons_append, List.nil_append, List.mem_cons, List.mem_append, List.not_mem_nil, or_false, not_or] at hn3
  simp -implicitDefEqProofs only [go_sem]
  refine newK_intro fun n4 hn4 => ?_
  try simp -implicitDefEqProofs only [hset, List.map_append, List.map_cons, List.map_nil, List.cons_append, List.nil_append, List.mem_cons, List.mem_append, List.not_mem_nil, or_false, not_or] at hn4
  simp -implicitDefEqProofs only [go_sem, hn4, intsA]
  refine newK_intro fun n7 hn7 => ?_
  try simp -implicitDefEqProofs only [hset, List.map_append, List.map_cons, List.map_nil, List.cons_append, List.nil_append, List.mem_cons, List.mem_append, List.not_mem_nil, or_false, not_or] at hn7
  simp -implicitDefEqProofs only [go_sem, hn4, hn7]
  refine AW.loopG tok (α := Nat × Pr) (fun a => slots 52 [(3, .ptr n3 0), (4, .ptr n4 0), (6, abool false), (7, .ptr n7 0), (13, intsA l), (14, iA l.length), (15, iA a.1)]) (fun a => [(n3, .cells 25 [.imm 1 (f.acts.map sA), .raw (.int .i64 f.inn), .raw (.int .i64 f.out), .imm 1 (f.sts.map intsA)]), (n4, .cells 25 [.imm 1 (g.acts.map sA), .raw (.int .i64 g.inn), .raw (.int .i64 g.out), .imm 1 (g.sts.map intsA)]), (n7, .cells 34 [iA a.2.1, iA a.2.2])])
    (fun a => a.1 ≤ l.length ∧ f.In g a.2 ∧ runG f g n (0, 0) (l.take a.1) = some a.2) (fun a => l.length - a.1) (0, (0, 0)) ⟨by simp, ⟨hf.pos, hg.pos⟩, rfl⟩ (by simp -implicitDefEqProofs only [go_sem, intsA, iA]) (List.Sublist.refl _) ?_
  rintro ⟨i, p⟩ ⟨hi, hp, hrun⟩
  simp only at hi hp hrun
  simp -implicitDefEqProofs only [go_sem, intsA, iA]
  by_cases hlti : i < l.length
  rotate_left
  · have e1 : decide ((i : Int) < (l.length : Int)) = false := by simp; omega
    rw [List.take_of_length_le (by omega)] at hrun
    have eB : gapN f g n l = !fitB f g n p := by simp [gapN, hrun]
    simp -implicitDefEqProofs only [go_sem, e1, hn4, hn7]
    refine opK_pure (fit_ok f g hf hg C.i p hp) rfl (Sub.of_eq (by first | rfl | simp -implicitDefEqProofs only [go_sem])) ?_
    simp -implicitDefEqProofs only [go_sem]
    refine fnPost_ret tok ?_
    simp -implicitDefEqProofs only [go_sem, Try.results65, eB]
  have e2 : (l.map iA)[i]? = some (iA l[i]) := by simp [hlti]
  simp -implicitDefEqProofs only [go_sem, dlt_true hlti, hlti, e2, iA, hn4, hn7, hn]
  have hno : gstep f g n p l[i] = none → gapN f g n l = false := fun h => by simp [gapN, runG_none hlti hrun h]
  by_cases c1 : l[i] < 0
  · have e := hno (by simp [gstep]; omega)
    simp -implicitDefEqProofs only [go_sem, c1, decide_true]
    refine fnPost_ret tok ?_
    simp -implicitDefEqProofs only [go_sem, Try.results65, e]
  by_cases c2 : l[i] ≥ n
  · have e := hno (by simp [gstep]; omega)
    simp -implicitDefEqProofs only [go_sem, c1, c2, decide_true, decide_false, hn, hn4, hn7]
    refine fnPost_ret tok ?_
    simp -implicitDefEqProofs only [go_sem, Try.results65, e]
  obtain ⟨a, ha⟩ : ∃ a : Nat, l[i] = (a : Int) := ⟨l[i].toNat, by omega⟩
  have han : a < n := by omega
  have h0 : ¬ ((a : Int) < 0) := by omega
  have c3 : ¬ ((a : Int) ≥ (n : Int)) := by omega
  simp -implicitDefEqProofs only [go_sem, ha, h0, c3, decide_true, decide_false, hn4, hn7, hn]
  refine opK_pure (fit_ok f g hf hg C.i p hp) rfl (Sub.of_eq (by first | rfl | simp -implicitDefEqProofs only [go_sem])) ?_
  cases hfit : fitB f g n p with
  | false =>
    have e := hno (by simp [gstep, hfit])
    simp -implicitDefEqProofs only [go_sem, hn4, hn7]
    refine fnPost_ret tok ?_
    simp -implicitDefEqProofs only [go_sem, Try.results65, e]
  | true =>
  have hs1 : gstep f g n p l[i] = alongN f g p a := by rw [ha]; simp [gstep, han, hfit]
  simp -implicitDefEqProofs only [go_sem, hn4, hn7]
  refine opK_pure (along_ok f g p a hp (by rw [hf.row _ hp.1]; exact han) (by rw [hg.row _ hp.2]; exact han)) rfl (Sub.of_eq (by first | rfl | simp -implicitDefEqProofs only [go_sem])) ?_
  simp -implicitDefEqProofs only [go_sem, pairA, iA]
  refine newK_intro fun n10 hn10 => ?_
  try simp -implicitDefEqProofs only [hset, List.map_append, List.map_cons, List.map_nil, List.cons_append, List.nil_append, List.mem_cons, List.mem_append, List.not_mem_nil, or_false, not_or] at hn10
  simp -implicitDefEqProofs only [go_sem, hn10]
  cases hst : alongN f g p a with
  | none =>
    have e := hno (by rw [hs1, hst])
    simp -implicitDefEqProofs only [go_sem, alongN_none hst]
    refine fnPost_ret tok ?_
    simp -implicitDefEqProofs only [go_sem, Try.results65, e]
  | some q =>
    obtain ⟨hIn, e1, e3⟩ := alongN_some hf hg hp han hst
    have d1 : (decide ((q.1 : Int) ≥ 0)) = true := by simp
    have d2 : (decide ((q.2 : Int) ≥ 0)) = true := by simp
    simp -implicitDefEqProofs only [go_sem, e1, e3, d1, d2, hn4, hn7, hn10, Bool.and_self, wrap_up hlti (by omega)]
    refine ⟨(i + 1, q), ⟨by simp only; omega, hIn, ?_⟩, by simp only; omega, by simp -implicitDefEqProofs only [go_sem], ?_⟩
    · simp only
      rw [List.take_add_one, List.getElem?_eq_getElem hlti, Option.toList_some, runG_snoc, hrun, Option.bind_some, hs1, hst]
    · repeat (first | exact List.Sublist.refl _ | apply List.Sublist.cons_cons | apply List.Sublist.cons)

set_option maxHeartbeats 1000000 in
/-- IsGap of the reference. -/
theorem IsGap_ok (f g : Fa) {n : Nat} (C : Cmp f g n) (l : List Int) (hl : l.length * 8 ≤ 140737488351232) : Fp Try.prog 31 [f.av, g.av, intsA l] (abool (gapN f g n l)) := by
  have hf := C.f
  have hg := C.g
  have h8 := hf.n8
  have hp8 := pow8 hf.n8
  have hn := hf.len
  refine Fp.of_vc tok Try.func31 rfl (by decide) ?_
  simp -implicitDefEqProofs only [go_sem, Try.ntmps31, Fa.av, Fa.cells, iA, strsA]
  refine newK_intro fun n3 hn3 => ?_
  try simp -implicitDefEqProofs only [hset, List.map_append, List.map_cons, List.map_nil, List.cons_append, List.nil_append, List.mem_cons, List.mem_append, List.not_mem_nil, or_false, not_or] at hn3
  simp -implicitDefEqProofs only [go_sem]
  refine newK_intro fun n4 hn4 => ?_
  try simp -implicitDefEqProofs only [hset, List.map_append, List.map_cons, List.map_nil, List.cons_append, List.nil_append, List.mem_cons, List.mem_append, List.not_mem_nil, or_false, not_or] at hn4
  simp -implicitDefEqProofs only [go_sem, hn4, hn]
  refine opK_pure (Actions_ok n l hl) rfl (Sub.of_eq (by first | rfl | simp -implicitDefEqProofs only [go_sem])) ?_
  by_cases hall : (l.all fun a => decide (0 ≤ a) && decide (a < n)) = true
  rotate_left
  · have e : gapN f g n l = false := by
      unfold gapN
      split
      · rename_i p hr; exact absurd (runG_all hr) hall
      · rfl
    simp -implicitDefEqProofs only [go_sem, hall]
    refine fnPost_ret tok ?_
    simp -implicitDefEqProofs only [go_sem, Try.results31, e]
  simp -implicitDefEqProofs only [go_sem, hall, intsA]
  refine newK_intro fun n7 hn7 => ?_
  try simp -implicitDefEqProofs only [hset, List.map_append, List.map_cons, List.map_nil, List.cons_append, List.nil_append, List.mem_cons, List.mem_append, List.not_mem_nil, or_false, not_or] at hn7
  simp -implicitDefEqProofs only [go_sem, hn4, hn7]
  refine AW.loopG tok (α := Nat × Pr) (fun a => slots 62 [(3, .ptr n3 0), (4, .ptr n4 0), (6, abool false), (7, .ptr n7 0), (17, intsA l), (18, iA l.length), (19, iA a.1)]) (fun a => [(n3, .cells 25 [.imm 1 (f.acts.map sA), .raw (.int .i64 f.inn), .raw (.int .i64 f.out), .imm 1 (f.sts.map intsA)]), (n4, .cells 25 [.imm 1 (g.acts.map sA), .raw (.int .i64 g.inn), .raw (.int .i64 g.out), .imm 1 (g.sts.map intsA)]), (n7, .cells 34 [iA a.2.1, iA a.2.2])])
    (fun a => a.1 ≤ l.length ∧ f.In g a.2 ∧ runG f g n (0, 0) (l.take a.1) = some a.2) (fun a => l.length - a.1) (0, (0, 0)) ⟨by simp, ⟨hf.pos, hg.pos⟩, rfl⟩ (by simp -implicitDefEqProofs only [go_sem, intsA, iA]) (List.Sublist.refl _) ?_
  rintro ⟨i, p⟩ ⟨hi, hp, hrun⟩
  simp only at hi hp hrun
  simp -implicitDefEqProofs only [go_sem, intsA, iA]
  by_cases hlti : i < l.length
  rotate_left
  · have e1 : decide ((i : Int) < (l.length : Int)) = false := by simp; omega
    rw [List.take_of_length_le (by omega)] at hrun
    have eB : gapN f g n l = !fitB f g n p := by simp [gapN, hrun]
    simp -implicitDefEqProofs only [go_sem, e1, hn4, hn7]
    refine opK_pure (good_ok f g hf hg p hp) rfl (Sub.of_eq (by first | rfl | simp -implicitDefEqProofs only [go_sem])) ?_
    simp -implicitDefEqProofs only [go_sem]
    refine fnPost_ret tok ?_
    simp -implicitDefEqProofs only [go_sem, Try.results31, eB]
  have e2 : (l.map iA)[i]? = some (iA l[i]) := by simp [hlti]
  have hno : gstep f g n p l[i] = none → gapN f g n l = false := fun h => by simp [gapN, runG_none hlti hrun h]
  have hr : 0 ≤ l[i] ∧ l[i] < n := by
    rw [List.all_eq_true] at hall
    simpa using hall _ (List.getElem_mem hlti)
  obtain ⟨a, ha⟩ : ∃ a : Nat, l[i] = (a : Int) := ⟨l[i].toNat, by omega⟩
  have han : a < n := by omega
  have hx := hp.1
  have hy := hp.2
  have hrx := hf.row p.1 hx
  have hry := hg.row p.2 hy
  have ex : (f.sts.map intsA)[p.1]? = some (intsA f.sts[p.1]) := by simp [hx]
  have ey : (g.sts.map intsA)[p.2]? = some (intsA g.sts[p.2]) := by simp [hy]
  obtain ⟨_, x2⟩ := at_cell (f := f) (x := p.1) (a := a) hx (by omega)
  obtain ⟨_, y2⟩ := at_cell (f := g) (x := p.2) (a := a) hy (by omega)
  simp -implicitDefEqProofs only [go_sem, dlt_true hlti, hlti, e2, iA, hn4, hn7, ha]
  refine opK_pure (good_ok f g hf hg p hp) rfl (Sub.of_eq (by first | rfl | simp -implicitDefEqProofs only [go_sem])) ?_
  cases hfit : fitB f g n p with
  | false =>
    have e := hno (by simp [gstep, hfit])
    simp -implicitDefEqProofs only [go_sem, hn4, hn7]
    refine fnPost_ret tok ?_
    simp -implicitDefEqProofs only [go_sem, Try.results31, e]
  | true =>
  have hs1 : gstep f g n p l[i] = alongN f g p a := by rw [ha]; simp [gstep, han, hfit]
  have hbit : hasI ((folN f g n p : Nat) : Int) a = (folN f g n p).testBit a := hasI_nat _ _ (by have := folN_lt hf hg p; omega) (by omega)
  have hfl := follow_iff C hp hfit han
  simp -implicitDefEqProofs only [go_sem, hn4, hn7]
  refine opK_pure (follows_ok f g hf hg p hp) rfl (Sub.of_eq (by first | rfl | simp -implicitDefEqProofs only [go_sem])) ?_
  simp -implicitDefEqProofs only [go_sem, iA]
  refine opK_pure (Has_ok ((folN f g n p : Nat) : Int) a) rfl (Sub.of_eq (by first | rfl | simp -implicitDefEqProofs only [go_sem])) ?_
  cases hst : alongN f g p a with
  | none =>
    have e := hno (by rw [hs1, hst])
    rw [hst] at hfl
    simp -implicitDefEqProofs only [go_sem, hbit, hfl, Option.isSome_none, hn4, hn7]
    refine fnPost_ret tok ?_
    simp -implicitDefEqProofs only [go_sem, Try.results31, e]
  | some q =>
    obtain ⟨hIn, e1, e3⟩ := alongN_some hf hg hp han hst
    rw [hst] at hfl
    rw [e1] at x2
    rw [e3] at y2
    simp -implicitDefEqProofs only [go_sem, hbit, hfl, Option.isSome_some, hn4, hn7]
    refine AW.draw tok hmix ⟨[], [], [], false⟩ (by kernel_rfl) (Has.of_sub (List.nil_sublist _)) ?_
    simp -implicitDefEqProofs only [go_sem, hn4, hn7, hx, hy, ex, ey, hrx, hry, han, x2, y2, intsA, iA, wrap_up hlti (by omega)]
    refine ⟨(i + 1, q), ⟨by simp only; omega, hIn, ?_⟩, by simp only; omega, by simp -implicitDefEqProofs only [go_sem], ?_⟩
    · simp only
      rw [List.take_add_one, List.getElem?_eq_getElem hlti, Option.toList_some, runG_snoc, hrun, Option.bind_some, hs1, hst]
    · repeat (first | exact List.Sublist.refl _ | apply List.Sublist.cons_cons | apply List.Sublist.cons)
end Go.Proofs.Ytebbiciepbbhkaa
