/- Chapter 12, part Tq: two faces together, by the reference: the walk. -/
import Derived.Test.YtebbiciepbbhkaaWalk5
set_option linter.unusedSimpArgs false
set_option linter.unusedVariables false
namespace Go.Proofs.Ytebbiciepbbhkaa
open Go Go.NS

set_option maxRecDepth 4000 in
set_option maxHeartbeats 8000000 in
/-- Together of the reference. -/
theorem TogetherR_ok (f g : Fa) {n : Nat} (hf : f.Val n) (hg : g.Val n) (hfs : f.Small) : Fp Try.prog 22 [f.av, g.av] (.tup [(togF f g n (keepD f g n)).av, .imm 2 (qc (togL f g n (keepD f g n)))]) := by
  have h8 := hf.n8
  obtain ⟨hor, hlt⟩ := out_or hf hg
  have hp8 := pow8 hf.n8
  have hn := hf.len
  have hfew := hf.few
  have hfew2 := hg.few
  have hpos := hf.pos
  have hpos2 := hg.pos
  have hsa := hfs.a
  have a1 := hf.ilt; have a2 := hf.olt; have a3 := hg.ilt; have a4 := hg.olt
  have b1 : f.iN ||| g.iN < 2 ^ n := Nat.or_lt_two_pow a1 a3
  have hii : bit2 .or .i64 f.inn g.inn = ((f.iN ||| g.iN : Nat) : Int) := by rw [hf.inn, hg.inn]; exact bit2_or _ _ (by omega) (by omega)
  have han : bit2 .andNot .i64 ((f.iN ||| g.iN : Nat) : Int) ((f.oN ||| g.oN : Nat) : Int) = ((nAndNot (f.iN ||| g.iN) (f.oN ||| g.oN) : Nat) : Int) := bit2_andNot _ _ (by omega) (by omega)
  have hmul : f.sts.length * g.sts.length ≤ 500 * 500 := Nat.mul_le_mul hf.few hg.few
  obtain ⟨keep, hkeep⟩ : ∃ keep, keep = keepD f g n := ⟨_, rfl⟩
  rw [← hkeep]
  obtain ⟨nf, hnf⟩ : ∃ nf, f.sts.length = nf := ⟨_, rfl⟩
  obtain ⟨ng, hng⟩ : ∃ ng, g.sts.length = ng := ⟨_, rfl⟩
  obtain ⟨N, hN⟩ : ∃ N, N = nf * ng := ⟨_, rfl⟩
  obtain ⟨suc, hsuc⟩ : ∃ suc : Nat → Pr → List It, suc = fun i p => sucs f g keep i p (bits n (ownS f g)) := ⟨_, rfl⟩
  obtain ⟨L, hL⟩ : ∃ L, L = togL f g n keep := ⟨_, rfl⟩
  have hbL : bfs suc (N + 1) 0 [(((0, 0), (-1, 0)) : It)] = L := by rw [hL, hsuc, hN, ← hnf, ← hng]; rfl
  have hlen : ∀ q : List It, (q.map (·.1)).Nodup → (∀ y ∈ q, f.In g y.1) → q.length ≤ N := fun q h1 h2 => by rw [hN, ← hnf, ← hng]; exact in_length h1 h2
  have hNb : N ≤ 500 * 500 := by rw [hN, ← hnf, ← hng]; exact hmul
  obtain ⟨rc, hrc⟩ : ∃ rc : Nat → List AV, rc = fun k => (rowT f g n keep L (L.getD k ((0, 0), (0, 0))).1).map iA := ⟨_, rfl⟩
  refine Fp.of_vc tok Try.func22 rfl (by decide) ?_
  simp -implicitDefEqProofs only [go_sem, Try.ntmps22, Fa.av, Fa.cells, iA, strsA]
  refine newK_intro fun n2 hn2 => ?_
  try simp -implicitDefEqProofs only [hset, rowsH_names, List.map_append, List.map_cons, List.map_nil, List.cons_append, List.nil_append, List.mem_cons, List.mem_append, List.not_mem_nil, or_false, not_or] at hn2
  simp -implicitDefEqProofs only [go_sem]
  refine newK_intro fun n3 hn3 => ?_
  try simp -implicitDefEqProofs only [hset, rowsH_names, List.map_append, List.map_cons, List.map_nil, List.cons_append, List.nil_append, List.mem_cons, List.mem_append, List.not_mem_nil, or_false, not_or] at hn3
  simp -implicitDefEqProofs only [go_sem, hn3, not_false_eq_true, hget_skip, hset_skip, List.append_assoc, rowsH_names, hnf, hng]
  refine newK_intro fun n4 hn4 => ?_
  try simp -implicitDefEqProofs only [hset, rowsH_names, List.map_append, List.map_cons, List.map_nil, List.cons_append, List.nil_append, List.mem_cons, List.mem_append, List.not_mem_nil, or_false, not_or] at hn4
  simp -implicitDefEqProofs only [go_sem, hn3, hn4, not_false_eq_true, hget_skip, hset_skip, List.append_assoc, rowsH_names, hnf, hng]
  refine opK_pure (lost_ok f g hf hg) rfl (Sub.of_eq (by first | rfl | simp -implicitDefEqProofs only [go_sem])) ?_
  simp -implicitDefEqProofs only [go_sem, hn3, hn4, not_false_eq_true, hget_skip, hset_skip, List.append_assoc, rowsH_names, hnf, hng]
  refine AW.draw tok hmix ⟨[], [], [], false⟩ (by kernel_rfl) (Has.of_sub (List.nil_sublist _)) ?_
  simp -implicitDefEqProofs only [go_sem, hn3, hn4, not_false_eq_true, hget_skip, hset_skip, List.append_assoc, rowsH_names, hnf, hng]
  refine opK_appendImm tok rfl rfl T22 rfl T9 (by decide) rfl (by decide) (by simp only [List.length_map, Nat.div_one]; omega) ?_
  simp -implicitDefEqProofs only [go_sem, hn3, hn4, not_false_eq_true, hget_skip, hset_skip, List.append_assoc, rowsH_names, hnf, hng, hor]
  refine newK_intro fun n7 hn7 => ?_
  try simp -implicitDefEqProofs only [hset, rowsH_names, List.map_append, List.map_cons, List.map_nil, List.cons_append, List.nil_append, List.mem_cons, List.mem_append, List.not_mem_nil, or_false, not_or] at hn7
  simp -implicitDefEqProofs only [go_sem, hn3, hn4, hn7, not_false_eq_true, hget_skip, hset_skip, List.append_assoc, rowsH_names, hnf, hng, hii, han]
  refine opK_make tok (n := nf) (zc := [.raw (.slice none 0 0)]) rfl rfl T23 rfl T44 (by decide) rfl rfl (by simp only; omega) (by omega) fun nO vO hnO => ?_
  try simp -implicitDefEqProofs only [hset, rowsH_names, List.map_append, List.map_cons, List.map_nil, List.cons_append, List.nil_append, List.mem_cons, List.mem_append, List.not_mem_nil, or_false, not_or] at hnO
  simp -implicitDefEqProofs only [go_sem, not_false_eq_true, hget_skip, hset_skip, List.append_assoc, rowsH_names, hnf, hng, hn3, hn4, hn7, hnO, zrep_one, ← outC_zero nf (fun _ => 0) (fun _ => 0), outC_length]
  refine AW.loopP tok (α := Nat × (Nat → Nat) × (Nat → Nat)) (fun a => slots 145 [(2, .ptr n2 0), (3, .ptr n3 0), (4, .ptr n4 0), (5, .raw (.slice none 0 0)), (6, mxA nf ng (lostF f g n)), (7, .ptr n7 0), (8, .own nO vO), (42, iA nf), (43, iA a.1)])
    (fun a => [(n2, .cells 25 [.imm 1 (f.acts.map sA), .raw (.int .i64 f.inn), .raw (.int .i64 f.out), .imm 1 (f.sts.map intsA)]), (n3, .cells 25 [.imm 1 (g.acts.map sA), .raw (.int .i64 g.inn), .raw (.int .i64 g.out), .imm 1 (g.sts.map intsA)]), (n4, .cells 25 [.raw (.slice none 0 0), .raw (.int .i64 0), .raw (.int .i64 0), .raw (.slice none 0 0)]), (n7, .cells 25 [.imm 1 (f.acts.map sA), .raw (.int .i64 (nAndNot (f.iN ||| g.iN) (f.oN ||| g.oN) : Nat)), .raw (.int .i64 (f.oN ||| g.oN : Nat)), .raw (.slice none 0 0)]), (nO, .row 44 1 vO (outC nf a.1 a.2.1 a.2.2))] ++ rowsH a.1 3 1 a.2.1 a.2.2 (mxR ng (fun _ _ => .raw (.int .i64 0))))
    (fun a => a.1 ≤ nf ∧ Inj a.1 a.2.1 ∧ (∀ x, x < a.1 → ¬ a.2.1 x = n2) ∧ (∀ x, x < a.1 → ¬ a.2.1 x = n3) ∧ (∀ x, x < a.1 → ¬ a.2.1 x = n4) ∧ (∀ x, x < a.1 → ¬ a.2.1 x = n7) ∧ (∀ x, x < a.1 → ¬ a.2.1 x = nO)) (fun a => nf - a.1) (0, (fun _ => 0), (fun _ => 0))
    ⟨Nat.zero_le _, inj_zero _, fun x h => absurd h (Nat.not_lt_zero x), fun x h => absurd h (Nat.not_lt_zero x), fun x h => absurd h (Nat.not_lt_zero x), fun x h => absurd h (Nat.not_lt_zero x), fun x h => absurd h (Nat.not_lt_zero x)⟩ (by simp -implicitDefEqProofs only [go_sem, iA]) (by rw [rowsH_zero, List.append_nil]; exact Has.refl _) ?_
  rintro ⟨i, ns, vs⟩ ⟨hi, hI, hne2, hne3, hne4, hne7, hneO⟩
  simp only at hi hI hne2 hne3 hne4 hne7 hneO
  simp -implicitDefEqProofs only [go_sem, not_false_eq_true, hget_skip, hset_skip, List.append_assoc, rowsH_names, hnf, hng, hn3, hn4, hn7, hnO, outC_length, iA]
  by_cases hin : i < nf
  · simp -implicitDefEqProofs only [go_sem, dlt_true hin, not_false_eq_true, hget_skip, hset_skip, List.append_assoc, rowsH_names, hnf, hng, hn3, hn4, hn7, hnO]
    refine opK_make tok (n := ng) (zc := [.raw (.int .i64 0)]) rfl rfl T44 rfl T3 (by decide) rfl rfl (by simp only; omega) (by omega) fun nR vR hnR => ?_
    try simp -implicitDefEqProofs only [hset, rowsH_names, List.map_append, List.map_cons, List.map_nil, List.cons_append, List.nil_append, List.mem_cons, List.mem_append, List.not_mem_nil, or_false, not_or] at hnR
    have hin1 : i + 1 ≤ nf := hin
    simp -implicitDefEqProofs only [go_sem, not_false_eq_true, hget_skip, hset_skip, List.append_assoc, rowsH_names, hnf, hng, hn3, hn4, hn7, hnO, hnR, zrep_one, outC_length, hin, hin1, outC_set ns vs nR vR hin, wrap_up hin (by omega)]
    refine ⟨(i + 1, upd ns i nR, upd vs i vR), ⟨hin, inj_snoc hI (by simp only [hnR, not_false_eq_true]), ne_snoc hne2 (by simp only [hnR, not_false_eq_true]), ne_snoc hne3 (by simp only [hnR, not_false_eq_true]), ne_snoc hne4 (by simp only [hnR, not_false_eq_true]), ne_snoc hne7 (by simp only [hnR, not_false_eq_true]), ne_snoc hneO (by simp only [hnR, not_false_eq_true])⟩, by simp only; omega, by simp -implicitDefEqProofs only [go_sem], ?_⟩
    rw [mxR_const ng _ i, rowsH_addM]
    exact Has.refl _
  obtain rfl : nf = i := by omega
  simp -implicitDefEqProofs only [go_sem, not_false_eq_true, hget_skip, hset_skip, List.append_assoc, rowsH_names, hnf, hng, hn3, hn4, hn7, hnO]
  have h0f : 0 < nf := by omega
  have h0g : 0 < ng := by omega
  have h1f : 1 ≤ nf := by omega
  have h1g : 1 ≤ ng := by omega
  have hm0 : upd2 (fun _ _ => AV.raw (.int .i64 0)) 0 0 (.raw (.int .i64 1)) = atF [(((0, 0), (-1, 0)) : It)] := by
    have h1 := atF_snoc (q := []) (z := (((0, 0), (-1, 0)) : It)) (by simp)
    have e : atF [] = fun _ _ => AV.raw (.int .i64 0) := by funext x y; simp [atF, atI]
    rw [e] at h1; exact h1
  simp -implicitDefEqProofs only [go_sem, not_false_eq_true, hget_skip, hset_skip, List.append_assoc, rowsH_names, hnf, hng, hn3, hn4, hn7, hnO, hget_rowsE hI, hget_rows hI, hset_rowsE hI, hset_rows hI, outC_get, outC_length, mxR_get, mxR_length, mxR_set, mxR_set0, hne2, hne3, hne4, hne7, hneO, h0f, h0g, h1f, h1g, hm0]
  refine opK_litOwn tok rfl T28 rfl T34 (by decide) (by simp -implicitDefEqProofs only [go_sem, zrep, List.flatten_cons, List.flatten_nil]; rfl) fun nX vX hnX => ?_
  try simp -implicitDefEqProofs only [hset, rowsH_names, List.map_append, List.map_cons, List.map_nil, List.cons_append, List.nil_append, List.mem_cons, List.mem_append, List.not_mem_nil, or_false, not_or] at hnX
  simp -implicitDefEqProofs only [go_sem, not_false_eq_true, hget_skip, hset_skip, List.append_assoc, rowsH_names, hnf, hng, hn3, hn4, hn7, hnO, hget_rowsE hI, hget_rows hI, hset_rowsE hI, hset_rows hI, outC_get, outC_length, mxR_get, mxR_length, mxR_set, mxR_set0, hne2, hne3, hne4, hne7, hneO, hnX]
  refine AW.adoptIn (sz := 1) (u := 25) (xs := [.imm 1 (f.acts.map sA), .raw (.int .i64 (nAndNot (f.iN ||| g.iN) (f.oN ||| g.oN) : Nat)), .raw (.int .i64 (f.oN ||| g.oN : Nat)), .raw (.slice none 0 0)]) n7 3 44 (by decide) (by simp -implicitDefEqProofs only [go_sem, not_false_eq_true, hget_skip, hset_skip, List.append_assoc, rowsH_names, hnf, hng, hn3, hn4, hn7, hnO, hget_rowsE hI, hget_rows hI, hset_rowsE hI, hset_rows hI, outC_get, outC_length, mxR_get, mxR_length, mxR_set, mxR_set0, hne2, hne3, hne4, hne7, hneO, hnX]) rfl fun nS hnS => ?_
  try simp -implicitDefEqProofs only [hset, rowsH_names, List.map_append, List.map_cons, List.map_nil, List.cons_append, List.nil_append, List.mem_cons, List.mem_append, List.not_mem_nil, or_false, not_or] at hnS
  have hneX : ∀ x, x < nf → ¬ ns x = nX := names_ne (by simp only [hnX, not_false_eq_true])
  have hneS : ∀ x, x < nf → ¬ ns x = nS := names_ne (by simp only [hnS, not_false_eq_true])
  simp -implicitDefEqProofs only [go_sem, not_false_eq_true, hget_skip, hset_skip, List.append_assoc, rowsH_names, hnf, hng, hn3, hn4, hn7, hnO, hget_rowsE hI, hget_rows hI, hset_rowsE hI, hset_rows hI, outC_get, outC_length, mxR_get, mxR_length, mxR_set, mxR_set0, hne2, hne3, hne4, hne7, hneO, hnX, hnS, hneX, hneS, qc_div]
  refine AW.loopP tok (α := Nat × List It × Nat × (Nat → Nat) × (Nat → Nat) × Nat) (fun a => slots 145 [(2, .ptr n2 0), (3, .ptr n3 0), (4, .ptr n4 0), (5, .raw (.slice none 0 0)), (6, mxA nf ng (lostF f g n)), (7, .ptr n7 0), (8, .own nO vO), (10, .own nX a.2.2.1), (11, iA a.1)])
    (fun a => [(n2, .cells 25 [.imm 1 (f.acts.map sA), .raw (.int .i64 f.inn), .raw (.int .i64 f.out), .imm 1 (f.sts.map intsA)]), (n3, .cells 25 [.imm 1 (g.acts.map sA), .raw (.int .i64 g.inn), .raw (.int .i64 g.out), .imm 1 (g.sts.map intsA)]), (n4, .cells 25 [.raw (.slice none 0 0), .raw (.int .i64 0), .raw (.int .i64 0), .raw (.slice none 0 0)]), (n7, .cells 25 [.imm 1 (f.acts.map sA), .raw (.int .i64 (nAndNot (f.iN ||| g.iN) (f.oN ||| g.oN) : Nat)), .raw (.int .i64 (f.oN ||| g.oN : Nat)), .own nS a.2.2.2.2.2]), (nO, .row 44 1 vO (outC nf nf ns vs)), (nX, .row 34 2 a.2.2.1 (qc a.2.1)), (nS, .row 44 1 a.2.2.2.2.2 (ownsC a.1 a.2.2.2.1 a.2.2.2.2.1))] ++ (rowsH nf 3 1 ns vs (mxR ng (atF a.2.1)) ++ rowsH a.1 3 1 a.2.2.2.1 a.2.2.2.2.1 rc))
    (fun a => a.1 ≤ a.2.1.length ∧ bfs suc (N + 1 - a.1) a.1 a.2.1 = L ∧ (a.2.1.map (·.1)).Nodup ∧ (∀ y ∈ a.2.1, f.In g y.1))
    (fun a => N + 1 - a.1) (0, [(((0, 0), (-1, 0)) : It)], vX, (fun _ => 0), (fun _ => 0), 0) ⟨Nat.zero_le _, hbL, by simp, fun y hy => by simp at hy; subst hy; exact ⟨hf.pos, hg.pos⟩⟩ (by simp -implicitDefEqProofs only [go_sem, iA]) (by
      have := has_end [(n2, .cells 25 [.imm 1 (f.acts.map sA), .raw (.int .i64 f.inn), .raw (.int .i64 f.out), .imm 1 (f.sts.map intsA)]), (n3, .cells 25 [.imm 1 (g.acts.map sA), .raw (.int .i64 g.inn), .raw (.int .i64 g.out), .imm 1 (g.sts.map intsA)]), (n4, .cells 25 [.raw (.slice none 0 0), .raw (.int .i64 0), .raw (.int .i64 0), .raw (.slice none 0 0)]), (n7, .cells 25 [.imm 1 (f.acts.map sA), .raw (.int .i64 (nAndNot (f.iN ||| g.iN) (f.oN ||| g.oN) : Nat)), .raw (.int .i64 (f.oN ||| g.oN : Nat)), .own nS 0]), (nO, .row 44 1 vO (outC nf nf ns vs))] (rowsH nf 3 1 ns vs (mxR ng (atF [(((0, 0), (-1, 0)) : It)]))) [(nX, .row 34 2 vX (qc [(((0, 0), (-1, 0)) : It)])), (nS, .row 44 1 0 [])]
      have e0 : qc [(((0, 0), (-1, 0)) : It)] = [.raw (.int .i64 0), .raw (.int .i64 0)] := rfl
      have e1 : ownsC 0 (fun _ => 0) (fun _ => 0) = [] := rfl
      simpa -implicitDefEqProofs only [e0, e1, rowsH_zero, List.append_nil, List.cons_append, List.nil_append, List.append_assoc] using this) ?_
  rintro ⟨i, q, vX, ns2, vs2, vS⟩ ⟨hi, hbfs, hq, hqin⟩
  simp only at hi hbfs hq hqin
  have hql := hlen q hq hqin
  simp -implicitDefEqProofs only [go_sem, not_false_eq_true, hget_skip, hset_skip, List.append_assoc, rowsH_names, hnf, hng, hn3, hn4, hn7, hnO, hget_rowsE hI, hget_rows hI, hset_rowsE hI, hset_rows hI, outC_get, outC_length, mxR_get, mxR_length, mxR_set, mxR_set0, hne2, hne3, hne4, hne7, hneO, hnX, hnS, hneX, hneS, qc_div, iA]
  by_cases hil : i < q.length
  rotate_left
  · rw [bfs_stop _ (by omega)] at hbfs
    subst hbfs
    have hiq : i = q.length := by omega
    subst hiq
    have e1 : decide ((q.length : Int) < (q.length : Int)) = false := by simp
    simp -implicitDefEqProofs only [go_sem, e1, not_false_eq_true, hget_skip, hset_skip, List.append_assoc, rowsH_names, hnf, hng, hn3, hn4, hn7, hnO, hget_rowsE hI, hget_rows hI, hset_rowsE hI, hset_rows hI, outC_get, outC_length, mxR_get, mxR_length, mxR_set, mxR_set0, hne2, hne3, hne4, hne7, hneO, hnX, hnS, hneX, hneS, qc_div]
    have hst2 : (List.range q.length).map (fun k => AV.imm 1 (rc k)) = (togF f g n keep).sts.map intsA := by
      simp only [togF, ← hL, List.map_map]
      refine List.ext_getElem (by simp) fun k q1 q2 => ?_
      have hkl : k < q.length := by simpa using q1
      simp only [List.getElem_map, List.getElem_range, Function.comp, hrc, intsA, List.getD, List.getElem?_eq_getElem hkl, Option.getD_some]
    have hfzS : Fzs ((nX, AObj.row 34 2 vX (qc q)) :: (nS, .row 44 1 vS (ownsC q.length ns2 vs2)) :: rowsH q.length 3 1 ns2 vs2 rc) (ownsC q.length ns2 vs2) ((List.range q.length).map fun k => AV.imm 1 (rc k)) :=
      Fzs.map fun k hk => Fz.rowS (t := 3) (List.mem_cons_of_mem _ (List.mem_cons_of_mem _ (List.mem_map.2 ⟨k, hk, rfl⟩))) (Fzs.refl _)
    have hfX : Fz ((nX, AObj.row 34 2 vX (qc q)) :: (nS, .row 44 1 vS (ownsC q.length ns2 vs2)) :: rowsH q.length 3 1 ns2 vs2 rc) (.own nX vX) (.imm 2 (qc q)) := Fz.rowS (t := 34) List.mem_cons_self (Fzs.refl _)
    refine fnPost_has (H2 := ((n4, .cells 25 [.imm 1 (f.acts.map sA), .raw (.int .i64 (nAndNot (f.iN ||| g.iN) (f.oN ||| g.oN) : Nat)), .raw (.int .i64 (f.oN ||| g.oN : Nat)), .own nS vS]) :: (nX, AObj.row 34 2 vX (qc q)) :: (nS, .row 44 1 vS (ownsC q.length ns2 vs2)) :: rowsH q.length 3 1 ns2 vs2 rc)) (Has.of_sub (List.Sublist.cons _ (List.Sublist.cons _ (List.Sublist.cons_cons _ (List.Sublist.cons _ (List.Sublist.cons _ (List.Sublist.cons_cons _ (List.Sublist.cons_cons _ (List.sublist_append_right _ _))))))))) ?_
    refine fnPost_fz ((nX, AObj.row 34 2 vX (qc q)) :: (nS, .row 44 1 vS (ownsC q.length ns2 vs2)) :: rowsH q.length 3 1 ns2 vs2 rc) [(n4, .cells 25 [.imm 1 (f.acts.map sA), .raw (.int .i64 (nAndNot (f.iN ||| g.iN) (f.oN ||| g.oN) : Nat)), .raw (.int .i64 (f.oN ||| g.oN : Nat)), .own nS vS])] (t' := slots 145 [(4, .ptr n4 0), (5, .imm 2 (qc q))]) (B' := [(n4, .cells 25 [.imm 1 (f.acts.map sA), .raw (.int .i64 (nAndNot (f.iN ||| g.iN) (f.oN ||| g.oN) : Nat)), .raw (.int .i64 (f.oN ||| g.oN : Nat)), .imm 1 ((List.range q.length).map fun k => AV.imm 1 (rc k))])]) List.perm_append_comm ?_
      (FzH.cons (.cells (Fzs.cons (Fz.refl _) (Fzs.cons (Fz.refl _) (Fzs.cons (Fz.refl _) (Fzs.cons (Fz.rowS (t := 44) (List.mem_cons_of_mem _ List.mem_cons_self) hfzS) Fzs.nil))))) FzH.nil) ?_
    · simp -implicitDefEqProofs only [go_sem]
      repeat (first | exact Fzs.nil | refine Fzs.cons hfX ?_ | refine Fzs.cons (Fz.refl _) ?_ | refine Fzs.cons (Fz.junk _) ?_)
    rw [hst2]
    simp -implicitDefEqProofs only [go_sem]
    refine fnPost_ret tok ?_
    simp -implicitDefEqProofs only [go_sem, Try.results22, togF, ← hL]
  obtain ⟨p, hpe⟩ : ∃ p : Pr, p = q[i].1 := ⟨_, rfl⟩
  have hp : f.In g p := hpe ▸ hqin _ (List.getElem_mem hil)
  have hx := hp.1
  have hy := hp.2
  have hs0 : suc i p = sucs f g keep i p (List.range n) := by rw [hsuc, sucs_range hf hg]
  have hfu : N + 1 - i = (N - i) + 1 := by omega
  rw [hfu, bfs_step _ hil, ← hpe, hs0] at hbfs
  have hLq : pushAll q (sucs f g keep i p (List.range n)) <+: L := hbfs ▸ bfs_prefix _ _ _ _
  have hLi : i < L.length := Nat.lt_of_lt_of_le hil ((pushAll_prefix _ q).trans hLq).length_le
  have hLp : L[i].1 = p := by rw [← ((pushAll_prefix _ q).trans hLq).getElem hil, hpe]
  simp -implicitDefEqProofs only [go_sem, dlt_true hil, not_false_eq_true, hget_skip, hset_skip, List.append_assoc, rowsH_names, hnf, hng, hn3, hn4, hn7, hnO, hget_rowsE hI, hget_rows hI, hset_rowsE hI, hset_rows hI, outC_get, outC_length, mxR_get, mxR_length, mxR_set, mxR_set0, hne2, hne3, hne4, hne7, hneO, hnX, hnS, hneX, hneS, qc_div, hn]
  refine AW.adopt 12 3 (sz := 1) (by decide) rfl fun nY hnY => ?_
  try simp -implicitDefEqProofs only [hset, rowsH_names, List.map_append, List.map_cons, List.map_nil, List.cons_append, List.nil_append, List.mem_cons, List.mem_append, List.not_mem_nil, or_false, not_or] at hnY
  have hneY : ∀ x, x < nf → ¬ ns x = nY := names_ne (by simp only [hnY, not_false_eq_true])
  simp -implicitDefEqProofs only [go_sem, not_false_eq_true, hget_skip, hset_skip, List.append_assoc, rowsH_names, hnf, hng, hn3, hn4, hn7, hnO, hget_rowsE hI, hget_rows hI, hset_rowsE hI, hset_rows hI, outC_get, outC_length, mxR_get, mxR_length, mxR_set, mxR_set0, hne2, hne3, hne4, hne7, hneO, hnX, hnS, hneX, hneS, qc_div, hnY, hneY]
  refine AW.loopP tok (α := Nat × List It × Nat × Nat) (fun a => slots 145 [(2, .ptr n2 0), (3, .ptr n3 0), (4, .ptr n4 0), (5, .raw (.slice none 0 0)), (6, mxA nf ng (lostF f g n)), (7, .ptr n7 0), (8, .own nO vO), (10, .own nX a.2.2.1), (11, iA i), (12, .own nY a.2.2.2), (68, iA n), (69, iA a.1)])
    (fun a => [(n2, .cells 25 [.imm 1 (f.acts.map sA), .raw (.int .i64 f.inn), .raw (.int .i64 f.out), .imm 1 (f.sts.map intsA)]), (n3, .cells 25 [.imm 1 (g.acts.map sA), .raw (.int .i64 g.inn), .raw (.int .i64 g.out), .imm 1 (g.sts.map intsA)]), (n4, .cells 25 [.raw (.slice none 0 0), .raw (.int .i64 0), .raw (.int .i64 0), .raw (.slice none 0 0)]), (n7, .cells 25 [.imm 1 (f.acts.map sA), .raw (.int .i64 (nAndNot (f.iN ||| g.iN) (f.oN ||| g.oN) : Nat)), .raw (.int .i64 (f.oN ||| g.oN : Nat)), .own nS vS]), (nO, .row 44 1 vO (outC nf nf ns vs)), (nX, .row 34 2 a.2.2.1 (qc a.2.1)), (nS, .row 44 1 vS (ownsC i ns2 vs2)), (nY, .row 3 1 a.2.2.2 (((rowT f g n keep L p).take a.1).map iA))] ++ (rowsH nf 3 1 ns vs (mxR ng (atF a.2.1)) ++ rowsH i 3 1 ns2 vs2 rc))
    (fun a => a.1 ≤ n ∧ a.2.1 = pushAll q (sucs f g keep i p (List.range a.1)))
    (fun a => n - a.1) (0, q, vX, 0) ⟨Nat.zero_le _, rfl⟩ (by simp -implicitDefEqProofs only [go_sem, iA]) (by
      have := has_end [(n2, .cells 25 [.imm 1 (f.acts.map sA), .raw (.int .i64 f.inn), .raw (.int .i64 f.out), .imm 1 (f.sts.map intsA)]), (n3, .cells 25 [.imm 1 (g.acts.map sA), .raw (.int .i64 g.inn), .raw (.int .i64 g.out), .imm 1 (g.sts.map intsA)]), (n4, .cells 25 [.raw (.slice none 0 0), .raw (.int .i64 0), .raw (.int .i64 0), .raw (.slice none 0 0)]), (n7, .cells 25 [.imm 1 (f.acts.map sA), .raw (.int .i64 (nAndNot (f.iN ||| g.iN) (f.oN ||| g.oN) : Nat)), .raw (.int .i64 (f.oN ||| g.oN : Nat)), .own nS vS]), (nO, .row 44 1 vO (outC nf nf ns vs)), (nX, .row 34 2 vX (qc q)), (nS, .row 44 1 vS (ownsC i ns2 vs2))] (rowsH nf 3 1 ns vs (mxR ng (atF q)) ++ rowsH i 3 1 ns2 vs2 rc) [(nY, .row 3 1 0 [])]
      simpa -implicitDefEqProofs only [List.take_zero, List.map_nil, List.append_nil, List.cons_append, List.nil_append, List.append_assoc] using this) ?_
  rintro ⟨a, q2, v2, vY⟩ ⟨ha, hq2⟩
  simp only at ha hq2
  have hq2n : (q2.map (·.1)).Nodup := hq2 ▸ pushAll_nodup _ _ hq
  have hpre2 : q <+: q2 := hq2 ▸ pushAll_prefix _ _
  have hq2in : ∀ z ∈ q2, f.In g z.1 := fun z hz => by
    rw [hq2] at hz
    rcases pushAll_mem hz with hz | hz
    · exact hqin z hz
    · simp only [sucs, List.mem_filterMap] at hz
      obtain ⟨b, h1, h2⟩ := hz
      exact suc1_in hf hg hp (Nat.lt_of_lt_of_le (List.mem_range.1 h1) ha) h2
  have hq2l := hlen q2 hq2n hq2in
  have hp2le := hpre2.length_le
  have hrl : (rowT f g n keep L p).length = n := by simp [rowT]
  have htl : ((rowT f g n keep L p).take a).length = a := by rw [List.length_take, hrl]; omega
  simp -implicitDefEqProofs only [go_sem, not_false_eq_true, hget_skip, hset_skip, List.append_assoc, rowsH_names, hnf, hng, hn3, hn4, hn7, hnO, hget_rowsE hI, hget_rows hI, hset_rowsE hI, hset_rows hI, outC_get, outC_length, mxR_get, mxR_length, mxR_set, mxR_set0, hne2, hne3, hne4, hne7, hneO, hnX, hnS, hneX, hneS, qc_div, hnY, hneY, iA]
  by_cases han : a < n
  rotate_left
  · obtain rfl : n = a := by omega
    have e1 : decide ((n : Int) < (n : Int)) = false := by simp
    simp -implicitDefEqProofs only [go_sem, e1, not_false_eq_true, hget_skip, hset_skip, List.append_assoc, rowsH_names, hnf, hng, hn3, hn4, hn7, hnO, hget_rowsE hI, hget_rows hI, hset_rowsE hI, hset_rows hI, outC_get, outC_length, mxR_get, mxR_length, mxR_set, mxR_set0, hne2, hne3, hne4, hne7, hneO, hnX, hnS, hneX, hneS, qc_div, hnY, hneY]
    refine opK_lit tok T23 rfl T44 (by decide) (by simp -implicitDefEqProofs only [go_sem, zrep, List.flatten_cons, List.flatten_nil]; rfl) ?_
    simp -implicitDefEqProofs only [go_sem, not_false_eq_true, hget_skip, hset_skip, List.append_assoc, rowsH_names, hnf, hng, hn3, hn4, hn7, hnO, hget_rowsE hI, hget_rows hI, hset_rowsE hI, hset_rows hI, outC_get, outC_length, mxR_get, mxR_length, mxR_set, mxR_set0, hne2, hne3, hne4, hne7, hneO, hnX, hnS, hneX, hneS, qc_div, hnY, hneY]
    refine opK_append tok rfl rfl (by simp -implicitDefEqProofs only [go_sem, not_false_eq_true, hget_skip, hset_skip, List.append_assoc, rowsH_names, hnf, hng, hn3, hn4, hn7, hnO, hget_rowsE hI, hget_rows hI, hset_rowsE hI, hset_rows hI, outC_get, outC_length, mxR_get, mxR_length, mxR_set, mxR_set0, hne2, hne3, hne4, hne7, hneO, hnX, hnS, hneX, hneS, qc_div, hnY, hneY]; rfl) rfl T23 rfl T44 rfl (by decide) (by simp only [ownsC_length, Nat.div_one, List.length_cons, List.length_nil]; omega) fun v3 => ?_
    simp -implicitDefEqProofs only [go_sem, not_false_eq_true, hget_skip, hset_skip, List.append_assoc, rowsH_names, hnf, hng, hn3, hn4, hn7, hnO, hget_rowsE hI, hget_rows hI, hset_rowsE hI, hset_rows hI, outC_get, outC_length, mxR_get, mxR_length, mxR_set, mxR_set0, hne2, hne3, hne4, hne7, hneO, hnX, hnS, hneX, hneS, qc_div, hnY, hneY, ownsC_snoc, wrap_up hil (by omega)]
    have hfu2 : N + 1 - (i + 1) = N - i := by omega
    have hrow : (((rowT f g n keep L p).take n).map iA) = rc i := by
      rw [List.take_of_length_le (by omega), hrc]
      simp only [List.getD, List.getElem?_eq_getElem hLi, Option.getD_some, hLp]
    refine ⟨(i + 1, q2, v2, upd ns2 i nY, upd vs2 i vY, v3), ⟨by simp only; omega, by simp only; rw [hfu2, hq2]; exact hbfs, hq2n, hq2in⟩, by simp only; omega, by simp -implicitDefEqProofs only [go_sem], ?_⟩
    have e2 : rowsH (i + 1) 3 1 (upd ns2 i nY) (upd vs2 i vY) rc = rowsH i 3 1 ns2 vs2 rc ++ [(nY, .row 3 1 vY (rc i))] := by
      rw [rowsH_add]
      exact rowsH_congr fun k hk => ⟨rfl, rfl, by by_cases e : k = i; (subst e; rw [upd_same]); rw [upd_ne e]⟩
    have := has_end [(n2, .cells 25 [.imm 1 (f.acts.map sA), .raw (.int .i64 f.inn), .raw (.int .i64 f.out), .imm 1 (f.sts.map intsA)]), (n3, .cells 25 [.imm 1 (g.acts.map sA), .raw (.int .i64 g.inn), .raw (.int .i64 g.out), .imm 1 (g.sts.map intsA)]), (n4, .cells 25 [.raw (.slice none 0 0), .raw (.int .i64 0), .raw (.int .i64 0), .raw (.slice none 0 0)]), (n7, .cells 25 [.imm 1 (f.acts.map sA), .raw (.int .i64 (nAndNot (f.iN ||| g.iN) (f.oN ||| g.oN) : Nat)), .raw (.int .i64 (f.oN ||| g.oN : Nat)), .own nS v3]), (nO, .row 44 1 vO (outC nf nf ns vs)), (nX, .row 34 2 v2 (qc q2)), (nS, .row 44 1 v3 (ownsC (i + 1) (upd ns2 i nY) (upd vs2 i vY)))] [(nY, .row 3 1 vY (rc i))] (rowsH nf 3 1 ns vs (mxR ng (atF q2)) ++ rowsH i 3 1 ns2 vs2 rc)
    simp only [e2, hrow]
    simpa -implicitDefEqProofs only [List.cons_append, List.nil_append, List.append_assoc] using this
  have eg : ((qc q2).drop (i * 2)).take 2 = [.raw (.int .i64 p.1), .raw (.int .i64 p.2)] := by
    rw [qc_get (Nat.lt_of_lt_of_le hil hp2le), ← hpre2.getElem hil, ← hpe]; rfl
  have el : i * 2 + 2 ≤ (qc q2).length := by rw [qc_length]; omega
  have el2 : i * 2 < (qc q2).length := by omega
  simp -implicitDefEqProofs only [go_sem, dlt_true han, not_false_eq_true, hget_skip, hset_skip, List.append_assoc, rowsH_names, hnf, hng, hn3, hn4, hn7, hnO, hget_rowsE hI, hget_rows hI, hset_rowsE hI, hset_rows hI, outC_get, outC_length, mxR_get, mxR_length, mxR_set, mxR_set0, hne2, hne3, hne4, hne7, hneO, hnX, hnS, hneX, hneS, qc_div, hnY, hneY]
  refine AW.draw tok hmix ⟨[], [], [], false⟩ (by kernel_rfl) (Has.of_sub (List.nil_sublist _)) ?_
  simp -implicitDefEqProofs only [go_sem, not_false_eq_true, hget_skip, hset_skip, List.append_assoc, rowsH_names, hnf, hng, hn3, hn4, hn7, hnO, hget_rowsE hI, hget_rows hI, hset_rowsE hI, hset_rows hI, outC_get, outC_length, mxR_get, mxR_length, mxR_set, mxR_set0, hne2, hne3, hne4, hne7, hneO, hnX, hnS, hneX, hneS, qc_div, hnY, hneY, eg, el, el2]
  refine opK_pure (stepR_ok f g p.1 p.2 a hx hy (by rw [hf.row _ hx]; exact han) (by rw [hg.row _ hy]; exact han)) rfl (Sub.of_eq (by first | rfl | simp -implicitDefEqProofs only [go_sem])) ?_
  simp -implicitDefEqProofs only [go_sem, pairA, iA, stepR_eq hf hg p.1 p.2 han]
  refine newK_intro fun n14 hn14 => ?_
  try simp -implicitDefEqProofs only [hset, rowsH_names, List.map_append, List.map_cons, List.map_nil, List.cons_append, List.nil_append, List.mem_cons, List.mem_append, List.not_mem_nil, or_false, not_or] at hn14
  have hne14 : ∀ x, x < nf → ¬ ns x = n14 := names_ne (by simp only [hn14, not_false_eq_true])
  simp -implicitDefEqProofs only [go_sem, not_false_eq_true, hget_skip, hset_skip, List.append_assoc, rowsH_names, hnf, hng, hn3, hn4, hn7, hnO, hget_rowsE hI, hget_rows hI, hset_rowsE hI, hset_rows hI, outC_get, outC_length, mxR_get, mxR_length, mxR_set, mxR_set0, hne2, hne3, hne4, hne7, hneO, hnX, hnS, hneX, hneS, qc_div, hnY, hneY, hn14, hne14]
  refine AW.draw tok hmix ⟨[], [], [], false⟩ (by kernel_rfl) (Has.of_sub (List.nil_sublist _)) ?_
  have hrt := rowT_get (f := f) (g := g) (keep := keep) (L := L) (p := p) han
  have hsnoc : sucs f g keep i p (List.range (a + 1)) = sucs f g keep i p (List.range a) ++ sucs f g keep i p [a] := by
    rw [List.range_succ]; simp [sucs, List.filterMap_append]
  have hnext : ∀ (q3 : List It) (v3 vZ : Nat) (c : List AV) (o : AObj), Has ([(n2, .cells 25 [.imm 1 (f.acts.map sA), .raw (.int .i64 f.inn), .raw (.int .i64 f.out), .imm 1 (f.sts.map intsA)]), (n3, .cells 25 [.imm 1 (g.acts.map sA), .raw (.int .i64 g.inn), .raw (.int .i64 g.out), .imm 1 (g.sts.map intsA)]), (n4, .cells 25 [.raw (.slice none 0 0), .raw (.int .i64 0), .raw (.int .i64 0), .raw (.slice none 0 0)]), (n7, .cells 25 [.imm 1 (f.acts.map sA), .raw (.int .i64 (nAndNot (f.iN ||| g.iN) (f.oN ||| g.oN) : Nat)), .raw (.int .i64 (f.oN ||| g.oN : Nat)), .own nS vS]), (nO, .row 44 1 vO (outC nf nf ns vs)), (nX, .row 34 2 v3 (qc q3)), (nS, .row 44 1 vS (ownsC i ns2 vs2)), (nY, .row 3 1 vZ c)] ++ (rowsH nf 3 1 ns vs (mxR ng (atF q3)) ++ rowsH i 3 1 ns2 vs2 rc)) ([(n2, .cells 25 [.imm 1 (f.acts.map sA), .raw (.int .i64 f.inn), .raw (.int .i64 f.out), .imm 1 (f.sts.map intsA)]), (n3, .cells 25 [.imm 1 (g.acts.map sA), .raw (.int .i64 g.inn), .raw (.int .i64 g.out), .imm 1 (g.sts.map intsA)]), (n4, .cells 25 [.raw (.slice none 0 0), .raw (.int .i64 0), .raw (.int .i64 0), .raw (.slice none 0 0)]), (n7, .cells 25 [.imm 1 (f.acts.map sA), .raw (.int .i64 (nAndNot (f.iN ||| g.iN) (f.oN ||| g.oN) : Nat)), .raw (.int .i64 (f.oN ||| g.oN : Nat)), .own nS vS]), (nO, .row 44 1 vO (outC nf nf ns vs)), (nX, .row 34 2 v3 (qc q3)), (nS, .row 44 1 vS (ownsC i ns2 vs2)), (nY, .row 3 1 vZ c)] ++ ((rowsH nf 3 1 ns vs (mxR ng (atF q3)) ++ rowsH i 3 1 ns2 vs2 rc) ++ [(n14, o)])) := fun q3 v3 vZ c o =>
    has_left [(n2, .cells 25 [.imm 1 (f.acts.map sA), .raw (.int .i64 f.inn), .raw (.int .i64 f.out), .imm 1 (f.sts.map intsA)]), (n3, .cells 25 [.imm 1 (g.acts.map sA), .raw (.int .i64 g.inn), .raw (.int .i64 g.out), .imm 1 (g.sts.map intsA)]), (n4, .cells 25 [.raw (.slice none 0 0), .raw (.int .i64 0), .raw (.int .i64 0), .raw (.slice none 0 0)]), (n7, .cells 25 [.imm 1 (f.acts.map sA), .raw (.int .i64 (nAndNot (f.iN ||| g.iN) (f.oN ||| g.oN) : Nat)), .raw (.int .i64 (f.oN ||| g.oN : Nat)), .own nS vS]), (nO, .row 44 1 vO (outC nf nf ns vs)), (nX, .row 34 2 v3 (qc q3)), (nS, .row 44 1 vS (ownsC i ns2 vs2)), (nY, .row 3 1 vZ c)] (rowsH nf 3 1 ns vs (mxR ng (atF q3)) ++ rowsH i 3 1 ns2 vs2 rc) [(n14, o)]
  cases hst : stepN f g p a with
  | none =>
    simp only [hst] at hrt
    have hrow : (((rowT f g n keep L p).take a).map iA) ++ [.raw (.int .i64 (-1))] = ((rowT f g n keep L p).take (a + 1)).map iA := by rw [hrt, List.map_append]; rfl
    simp -implicitDefEqProofs only [go_sem, stepN_none hst, not_false_eq_true, hget_skip, hset_skip, List.append_assoc, rowsH_names, hnf, hng, hn3, hn4, hn7, hnO, hget_rowsE hI, hget_rows hI, hset_rowsE hI, hset_rows hI, outC_get, outC_length, mxR_get, mxR_length, mxR_set, mxR_set0, hne2, hne3, hne4, hne7, hneO, hnX, hnS, hneX, hneS, qc_div, hnY, hneY, hn14, hne14]
    refine opK_lit tok T44 rfl T3 (by decide) (by simp -implicitDefEqProofs only [go_sem, zrep, List.flatten_cons, List.flatten_nil]; rfl) ?_
    simp -implicitDefEqProofs only [go_sem, not_false_eq_true, hget_skip, hset_skip, List.append_assoc, rowsH_names, hnf, hng, hn3, hn4, hn7, hnO, hget_rowsE hI, hget_rows hI, hset_rowsE hI, hset_rows hI, outC_get, outC_length, mxR_get, mxR_length, mxR_set, mxR_set0, hne2, hne3, hne4, hne7, hneO, hnX, hnS, hneX, hneS, qc_div, hnY, hneY, hn14, hne14]
    refine opK_append tok rfl rfl (by simp -implicitDefEqProofs only [go_sem, not_false_eq_true, hget_skip, hset_skip, List.append_assoc, rowsH_names, hnf, hng, hn3, hn4, hn7, hnO, hget_rowsE hI, hget_rows hI, hset_rowsE hI, hset_rows hI, outC_get, outC_length, mxR_get, mxR_length, mxR_set, mxR_set0, hne2, hne3, hne4, hne7, hneO, hnX, hnS, hneX, hneS, qc_div, hnY, hneY, hn14, hne14]; rfl) rfl T44 rfl T3 rfl (by decide) (by simp only [List.length_map, htl, Nat.div_one, List.length_cons, List.length_nil]; omega) fun v5 => ?_
    simp -implicitDefEqProofs only [go_sem, not_false_eq_true, hget_skip, hset_skip, List.append_assoc, rowsH_names, hnf, hng, hn3, hn4, hn7, hnO, hget_rowsE hI, hget_rows hI, hset_rowsE hI, hset_rows hI, outC_get, outC_length, mxR_get, mxR_length, mxR_set, mxR_set0, hne2, hne3, hne4, hne7, hneO, hnX, hnS, hneX, hneS, qc_div, hnY, hneY, hn14, hne14, hrow, wrap_up han (by omega)]
    refine ⟨(a + 1, q2, v2, v5), ⟨han, ?_⟩, by simp only; omega, by simp -implicitDefEqProofs only [go_sem], ?_⟩
    · simp only [hsnoc, pushAll_append, ← hq2]
      simp [sucs, suc1, hst, pushAll]
    · have := hnext q2 v2 v5 (((rowT f g n keep L p).take (a + 1)).map iA) (.cells 34 [.raw (.int .i64 (stepI f g p.1 p.2 a).1), .raw (.int .i64 (stepI f g p.1 p.2 a).2)])
      simpa -implicitDefEqProofs only [List.cons_append, List.nil_append, List.append_assoc] using this
  | some tq =>
    obtain ⟨hB, hIn, hI2⟩ := stepN_some hf hg hp han hst
    have hi1 := hIn.1
    have hi2 := hIn.2
    rw [hnf] at hi1
    rw [hng] at hi2
    have hi3 : tq.1 + 1 ≤ nf := hi1
    have hi4 : tq.2 + 1 ≤ ng := hi2
    have eL : ((List.range nf).map fun x => AV.imm 1 (mxR ng (lostF f g n) x))[tq.1]? = some (.imm 1 (mxR ng (lostF f g n) tq.1)) := by simp [hi1]
    have hkd : keep tq = !lostD f g n (tq.1, tq.2) := by rw [hkeep]; rfl
    simp -implicitDefEqProofs only [go_sem, hB, hI2, not_false_eq_true, hget_skip, hset_skip, List.append_assoc, rowsH_names, hnf, hng, hn3, hn4, hn7, hnO, hget_rowsE hI, hget_rows hI, hset_rowsE hI, hset_rows hI, outC_get, outC_length, mxR_get, mxR_length, mxR_set, mxR_set0, hne2, hne3, hne4, hne7, hneO, hnX, hnS, hneX, hneS, qc_div, hnY, hneY, hn14, hne14, mxA, List.length_range, hi1, hi2, eL, lostF]
    simp only [hst] at hrt
    cases hk : lostD f g n (tq.1, tq.2) with
    | true =>
      have hkt : keep tq = false := by rw [hkd, hk]; rfl
      have hrow : (((rowT f g n keep L p).take a).map iA) ++ [.raw (.int .i64 (-1))] = ((rowT f g n keep L p).take (a + 1)).map iA := by rw [hrt, List.map_append, hkt]; rfl
      simp -implicitDefEqProofs only [go_sem, not_false_eq_true, hget_skip, hset_skip, List.append_assoc, rowsH_names, hnf, hng, hn3, hn4, hn7, hnO, hget_rowsE hI, hget_rows hI, hset_rowsE hI, hset_rows hI, outC_get, outC_length, mxR_get, mxR_length, mxR_set, mxR_set0, hne2, hne3, hne4, hne7, hneO, hnX, hnS, hneX, hneS, qc_div, hnY, hneY, hn14, hne14]
      refine opK_lit tok T44 rfl T3 (by decide) (by simp -implicitDefEqProofs only [go_sem, zrep, List.flatten_cons, List.flatten_nil]; rfl) ?_
      simp -implicitDefEqProofs only [go_sem, not_false_eq_true, hget_skip, hset_skip, List.append_assoc, rowsH_names, hnf, hng, hn3, hn4, hn7, hnO, hget_rowsE hI, hget_rows hI, hset_rowsE hI, hset_rows hI, outC_get, outC_length, mxR_get, mxR_length, mxR_set, mxR_set0, hne2, hne3, hne4, hne7, hneO, hnX, hnS, hneX, hneS, qc_div, hnY, hneY, hn14, hne14]
      refine opK_append tok rfl rfl (by simp -implicitDefEqProofs only [go_sem, not_false_eq_true, hget_skip, hset_skip, List.append_assoc, rowsH_names, hnf, hng, hn3, hn4, hn7, hnO, hget_rowsE hI, hget_rows hI, hset_rowsE hI, hset_rows hI, outC_get, outC_length, mxR_get, mxR_length, mxR_set, mxR_set0, hne2, hne3, hne4, hne7, hneO, hnX, hnS, hneX, hneS, qc_div, hnY, hneY, hn14, hne14]; rfl) rfl T44 rfl T3 rfl (by decide) (by simp only [List.length_map, htl, Nat.div_one, List.length_cons, List.length_nil]; omega) fun v5 => ?_
      simp -implicitDefEqProofs only [go_sem, not_false_eq_true, hget_skip, hset_skip, List.append_assoc, rowsH_names, hnf, hng, hn3, hn4, hn7, hnO, hget_rowsE hI, hget_rows hI, hset_rowsE hI, hset_rows hI, outC_get, outC_length, mxR_get, mxR_length, mxR_set, mxR_set0, hne2, hne3, hne4, hne7, hneO, hnX, hnS, hneX, hneS, qc_div, hnY, hneY, hn14, hne14, hrow, wrap_up han (by omega)]
      refine ⟨(a + 1, q2, v2, v5), ⟨han, ?_⟩, by simp only; omega, by simp -implicitDefEqProofs only [go_sem], ?_⟩
      · simp only [hsnoc, pushAll_append, ← hq2]
        simp [sucs, suc1, hst, pushAll, hkt]
      · have := hnext q2 v2 v5 (((rowT f g n keep L p).take (a + 1)).map iA) (.cells 34 [.raw (.int .i64 tq.1), .raw (.int .i64 tq.2)])
        simpa -implicitDefEqProofs only [List.cons_append, List.nil_append, List.append_assoc] using this
    | false =>
      have hkt : keep tq = true := by rw [hkd, hk]; rfl
      rw [if_pos hkt] at hrt
      simp -implicitDefEqProofs only [go_sem, not_false_eq_true, hget_skip, hset_skip, List.append_assoc, rowsH_names, hnf, hng, hn3, hn4, hn7, hnO, hget_rowsE hI, hget_rows hI, hset_rowsE hI, hset_rows hI, outC_get, outC_length, mxR_get, mxR_length, mxR_set, mxR_set0, hne2, hne3, hne4, hne7, hneO, hnX, hnS, hneX, hneS, qc_div, hnY, hneY, hn14, hne14]
      refine AW.draw tok hmix ⟨[], [], [], false⟩ (by kernel_rfl) (Has.of_sub (List.nil_sublist _)) ?_
      by_cases hs : tq ∈ q2.map (·.1)
      · have hat : atI q2 tq.1 tq.2 = (((q2.map (·.1)).idxOf tq : Nat) : Int) + 1 := atI_mem hs
        have hne0 : ¬ ((((q2.map (·.1)).idxOf tq : Nat) : Int) + 1 = 0) := by omega
        have hix : (q2.map (·.1)).idxOf tq < q2.length := by have := List.idxOf_lt_length_iff.2 hs; simpa using this
        have hw1 : IntKind.i64.wrap ((((q2.map (·.1)).idxOf tq : Nat) : Int) + 1 - 1) = (((q2.map (·.1)).idxOf tq : Nat) : Int) := by rw [IntWalk.i64_in _ (by omega)]; omega
        have hq3 : q2 = pushAll q (sucs f g keep i p (List.range (a + 1))) := by
          rw [hsnoc, pushAll_append, ← hq2]
          have e : sucs f g keep i p [a] = [(tq, (((i : Nat) : Int), (a : Int)))] := by simp [sucs, suc1, hst, hkt]
          rw [e, pushAll_cons, pushAll_nil, push_old hs]
        have hqL : q2 <+: L := by
          rw [hq3]
          have h1 := sucs_take f g keep i p q (List.range n) (a + 1)
          have h2 : (List.range n).take (a + 1) = List.range (a + 1) := by rw [List.take_range]; congr 1; omega
          rw [h2] at h1; exact h1.trans hLq
        have hrow : (((rowT f g n keep L p).take a).map iA) ++ [.raw (.int .i64 (((q2.map (·.1)).idxOf tq : Nat) : Int))] = ((rowT f g n keep L p).take (a + 1)).map iA := by rw [hrt, List.map_append, idxOf_pre hqL hs]; rfl
        simp -implicitDefEqProofs only [go_sem, not_false_eq_true, hget_skip, hset_skip, List.append_assoc, rowsH_names, hnf, hng, hn3, hn4, hn7, hnO, hget_rowsE hI, hget_rows hI, hset_rowsE hI, hset_rows hI, outC_get, outC_length, mxR_get, mxR_length, mxR_set, mxR_set0, hne2, hne3, hne4, hne7, hneO, hnX, hnS, hneX, hneS, qc_div, hnY, hneY, hn14, hne14, hi1, hi2, hi3, hi4, atF, hat, hne0, decide_false]
        refine AW.draw tok hmix ⟨[135], [], [], false⟩ (by kernel_rfl) (Has.of_sub (List.nil_sublist _)) ?_
        simp -implicitDefEqProofs only [go_sem, not_false_eq_true, hget_skip, hset_skip, List.append_assoc, rowsH_names, hnf, hng, hn3, hn4, hn7, hnO, hget_rowsE hI, hget_rows hI, hset_rowsE hI, hset_rows hI, outC_get, outC_length, mxR_get, mxR_length, mxR_set, mxR_set0, hne2, hne3, hne4, hne7, hneO, hnX, hnS, hneX, hneS, qc_div, hnY, hneY, hn14, hne14, hi1, hi2, hi3, hi4, atF, hat, hw1]
        refine opK_lit tok T44 rfl T3 (by decide) (by simp -implicitDefEqProofs only [go_sem, zrep, List.flatten_cons, List.flatten_nil]; rfl) ?_
        simp -implicitDefEqProofs only [go_sem, not_false_eq_true, hget_skip, hset_skip, List.append_assoc, rowsH_names, hnf, hng, hn3, hn4, hn7, hnO, hget_rowsE hI, hget_rows hI, hset_rowsE hI, hset_rows hI, outC_get, outC_length, mxR_get, mxR_length, mxR_set, mxR_set0, hne2, hne3, hne4, hne7, hneO, hnX, hnS, hneX, hneS, qc_div, hnY, hneY, hn14, hne14]
        refine opK_append tok rfl rfl (by simp -implicitDefEqProofs only [go_sem, not_false_eq_true, hget_skip, hset_skip, List.append_assoc, rowsH_names, hnf, hng, hn3, hn4, hn7, hnO, hget_rowsE hI, hget_rows hI, hset_rowsE hI, hset_rows hI, outC_get, outC_length, mxR_get, mxR_length, mxR_set, mxR_set0, hne2, hne3, hne4, hne7, hneO, hnX, hnS, hneX, hneS, qc_div, hnY, hneY, hn14, hne14]; rfl) rfl T44 rfl T3 rfl (by decide) (by simp only [List.length_map, htl, Nat.div_one, List.length_cons, List.length_nil]; omega) fun v5 => ?_
        simp -implicitDefEqProofs only [go_sem, not_false_eq_true, hget_skip, hset_skip, List.append_assoc, rowsH_names, hnf, hng, hn3, hn4, hn7, hnO, hget_rowsE hI, hget_rows hI, hset_rowsE hI, hset_rows hI, outC_get, outC_length, mxR_get, mxR_length, mxR_set, mxR_set0, hne2, hne3, hne4, hne7, hneO, hnX, hnS, hneX, hneS, qc_div, hnY, hneY, hn14, hne14, hrow, wrap_up han (by omega)]
        refine ⟨(a + 1, q2, v2, v5), ⟨han, hq3⟩, by simp only; omega, by simp -implicitDefEqProofs only [go_sem], ?_⟩
        have := hnext q2 v2 v5 (((rowT f g n keep L p).take (a + 1)).map iA) (.cells 34 [.raw (.int .i64 tq.1), .raw (.int .i64 tq.2)])
        simpa -implicitDefEqProofs only [List.cons_append, List.nil_append, List.append_assoc] using this
      have hat : atI q2 tq.1 tq.2 = 0 := atI_not hs
      obtain ⟨x, hx0⟩ : ∃ x : It, x = (tq, (((i : Nat) : Int), (a : Int))) := ⟨_, rfl⟩
      have hxs : x.1 ∉ q2.map (·.1) := by rw [hx0]; exact hs
      have hq3 : q2 ++ [x] = pushAll q (sucs f g keep i p (List.range (a + 1))) := by
        rw [hsnoc, pushAll_append, ← hq2]
        have e : sucs f g keep i p [a] = [x] := by rw [hx0]; simp [sucs, suc1, hst, hkt]
        rw [e, pushAll_cons, pushAll_nil, push_new hxs]
      have hqL : q2 ++ [x] <+: L := by
        rw [hq3]
        have h1 := sucs_take f g keep i p q (List.range n) (a + 1)
        have h2 : (List.range n).take (a + 1) = List.range (a + 1) := by rw [List.take_range]; congr 1; omega
        rw [h2] at h1; exact h1.trans hLq
      have hs3 : tq ∈ (q2 ++ [x]).map (·.1) := by rw [hx0]; simp
      have hat3 : atI (q2 ++ [x]) tq.1 tq.2 = ((((q2 ++ [x]).map (·.1)).idxOf tq : Nat) : Int) + 1 := atI_mem hs3
      have hix : ((q2 ++ [x]).map (·.1)).idxOf tq < q2.length + 1 := by have := List.idxOf_lt_length_iff.2 hs3; simpa using this
      have hw1 : IntKind.i64.wrap (((((q2 ++ [x]).map (·.1)).idxOf tq : Nat) : Int) + 1 - 1) = ((((q2 ++ [x]).map (·.1)).idxOf tq : Nat) : Int) := by rw [IntWalk.i64_in _ (by omega)]; omega
      have hrow : (((rowT f g n keep L p).take a).map iA) ++ [.raw (.int .i64 ((((q2 ++ [x]).map (·.1)).idxOf tq : Nat) : Int))] = ((rowT f g n keep L p).take (a + 1)).map iA := by rw [hrt, idxOf_pre hqL hs3, List.map_append (f := iA)]; rfl
      have hsf : upd2 (atF q2) tq.1 tq.2 (.raw (.int .i64 (((q2 ++ [x]).length : Nat) : Int))) = atF (q2 ++ [x]) := by
        have h1 := atF_snoc hxs
        rw [hx0] at h1 ⊢
        rw [List.length_append]; exact h1
      have hqc : qc q2 ++ [.raw (.int .i64 tq.1), .raw (.int .i64 tq.2)] = qc (q2 ++ [x]) := by
        have := qc_snoc q2 x
        rw [← this, hx0]; rfl
      simp -implicitDefEqProofs only [go_sem, not_false_eq_true, hget_skip, hset_skip, List.append_assoc, rowsH_names, hnf, hng, hn3, hn4, hn7, hnO, hget_rowsE hI, hget_rows hI, hset_rowsE hI, hset_rows hI, outC_get, outC_length, mxR_get, mxR_length, mxR_set, mxR_set0, hne2, hne3, hne4, hne7, hneO, hnX, hnS, hneX, hneS, qc_div, hnY, hneY, hn14, hne14, hi1, hi2, hi3, hi4, atF, hat, decide_true]
      refine opK_lit tok T28 rfl T34 (by decide) (by simp -implicitDefEqProofs only [go_sem, zrep, List.flatten_cons, List.flatten_nil]; rfl) ?_
      simp -implicitDefEqProofs only [go_sem, not_false_eq_true, hget_skip, hset_skip, List.append_assoc, rowsH_names, hnf, hng, hn3, hn4, hn7, hnO, hget_rowsE hI, hget_rows hI, hset_rowsE hI, hset_rows hI, outC_get, outC_length, mxR_get, mxR_length, mxR_set, mxR_set0, hne2, hne3, hne4, hne7, hneO, hnX, hnS, hneX, hneS, qc_div, hnY, hneY, hn14, hne14]
      refine opK_append tok rfl rfl (by simp -implicitDefEqProofs only [go_sem, not_false_eq_true, hget_skip, hset_skip, List.append_assoc, rowsH_names, hnf, hng, hn3, hn4, hn7, hnO, hget_rowsE hI, hget_rows hI, hset_rowsE hI, hset_rows hI, outC_get, outC_length, mxR_get, mxR_length, mxR_set, mxR_set0, hne2, hne3, hne4, hne7, hneO, hnX, hnS, hneX, hneS, qc_div, hnY, hneY, hn14, hne14]; rfl) rfl T28 rfl T34 rfl (by decide) (by simp only [qc_div, List.length_cons, List.length_nil]; omega) fun v3 => ?_
      simp -implicitDefEqProofs only [go_sem, not_false_eq_true, hget_skip, hset_skip, List.append_assoc, rowsH_names, hnf, hng, hn3, hn4, hn7, hnO, hget_rowsE hI, hget_rows hI, hset_rowsE hI, hset_rows hI, outC_get, outC_length, mxR_get, mxR_length, mxR_set, mxR_set0, hne2, hne3, hne4, hne7, hneO, hnX, hnS, hneX, hneS, qc_div, hnY, hneY, hn14, hne14, hqc]
      refine AW.draw tok hmix ⟨[], [], [], false⟩ (by kernel_rfl) (Has.of_sub (List.nil_sublist _)) ?_
      simp -implicitDefEqProofs only [go_sem, not_false_eq_true, hget_skip, hset_skip, List.append_assoc, rowsH_names, hnf, hng, hn3, hn4, hn7, hnO, hget_rowsE hI, hget_rows hI, hset_rowsE hI, hset_rows hI, outC_get, outC_length, mxR_get, mxR_length, mxR_set, mxR_set0, hne2, hne3, hne4, hne7, hneO, hnX, hnS, hneX, hneS, qc_div, hnY, hneY, hn14, hne14, hi1, hi2, hi3, hi4, hsf]
      refine AW.draw tok hmix ⟨[135], [], [], false⟩ (by kernel_rfl) (Has.of_sub (List.nil_sublist _)) ?_
      have hatF : atF (q2 ++ [x]) tq.1 tq.2 = .raw (.int .i64 (((((q2 ++ [x]).map (·.1)).idxOf tq : Nat) : Int) + 1)) := by unfold atF; rw [hat3]
      simp -implicitDefEqProofs only [go_sem, not_false_eq_true, hget_skip, hset_skip, List.append_assoc, rowsH_names, hnf, hng, hn3, hn4, hn7, hnO, hget_rowsE hI, hget_rows hI, hset_rowsE hI, hset_rows hI, outC_get, outC_length, mxR_get, mxR_length, mxR_set, mxR_set0, hne2, hne3, hne4, hne7, hneO, hnX, hnS, hneX, hneS, qc_div, hnY, hneY, hn14, hne14, hi1, hi2, hi3, hi4, hatF, hw1]
      refine opK_lit tok T44 rfl T3 (by decide) (by simp -implicitDefEqProofs only [go_sem, zrep, List.flatten_cons, List.flatten_nil]; rfl) ?_
      simp -implicitDefEqProofs only [go_sem, not_false_eq_true, hget_skip, hset_skip, List.append_assoc, rowsH_names, hnf, hng, hn3, hn4, hn7, hnO, hget_rowsE hI, hget_rows hI, hset_rowsE hI, hset_rows hI, outC_get, outC_length, mxR_get, mxR_length, mxR_set, mxR_set0, hne2, hne3, hne4, hne7, hneO, hnX, hnS, hneX, hneS, qc_div, hnY, hneY, hn14, hne14]
      refine opK_append tok rfl rfl (by simp -implicitDefEqProofs only [go_sem, not_false_eq_true, hget_skip, hset_skip, List.append_assoc, rowsH_names, hnf, hng, hn3, hn4, hn7, hnO, hget_rowsE hI, hget_rows hI, hset_rowsE hI, hset_rows hI, outC_get, outC_length, mxR_get, mxR_length, mxR_set, mxR_set0, hne2, hne3, hne4, hne7, hneO, hnX, hnS, hneX, hneS, qc_div, hnY, hneY, hn14, hne14]; rfl) rfl T44 rfl T3 rfl (by decide) (by simp only [List.length_map, htl, Nat.div_one, List.length_cons, List.length_nil]; omega) fun v5 => ?_
      simp -implicitDefEqProofs only [go_sem, not_false_eq_true, hget_skip, hset_skip, List.append_assoc, rowsH_names, hnf, hng, hn3, hn4, hn7, hnO, hget_rowsE hI, hget_rows hI, hset_rowsE hI, hset_rows hI, outC_get, outC_length, mxR_get, mxR_length, mxR_set, mxR_set0, hne2, hne3, hne4, hne7, hneO, hnX, hnS, hneX, hneS, qc_div, hnY, hneY, hn14, hne14, hrow, wrap_up han (by omega)]
      refine ⟨(a + 1, q2 ++ [x], v3, v5), ⟨han, hq3⟩, by simp only; omega, by simp -implicitDefEqProofs only [go_sem], ?_⟩
      have := hnext (q2 ++ [x]) v3 v5 (((rowT f g n keep L p).take (a + 1)).map iA) (.cells 34 [.raw (.int .i64 tq.1), .raw (.int .i64 tq.2)])
      simpa -implicitDefEqProofs only [List.cons_append, List.nil_append, List.append_assoc] using this
end Go.Proofs.Ytebbiciepbbhkaa
/- Chapter 12, part Tr: the law FaceTogether. -/
namespace Go.Proofs.Ytebbiciepbbhkaa
open Go Go.NS

theorem togF_small {f g : Fa} {n : Nat} (hf : f.Val n) (hg : g.Val n) (hfs : f.Small) (keep : Pr → Bool) : (togF f g n keep).Small := by
  have h1 : (togL f g n keep).length ≤ f.sts.length * g.sts.length := in_length (foundL_nodup f g n (ownS f g) keep) (foundL_in hf hg)
  have h4 : f.sts.length * g.sts.length ≤ 500 * 500 := Nat.mul_le_mul hf.few hg.few
  have h8 := hf.n8
  refine ⟨hfs.a, ?_, ?_⟩
  · simp only [togF, List.length_map]; omega
  · intro l hl
    simp only [togF, List.mem_map] at hl
    obtain ⟨x, _, rfl⟩ := hl
    simp only [rowT, List.length_map, List.length_range]; omega
theorem zero_small : Fa.zero.Small := ⟨by decide, by decide, by simp [Fa.zero]⟩
theorem turn_small {f : Fa} (hf : f.Small) : f.turn.Small := ⟨hf.a, hf.s, hf.r⟩
theorem beq_self (f : Fa) : f.beq f = true := (Fa.beq_iff f f).2 rfl


set_option maxRecDepth 4000 in
set_option maxHeartbeats 4000000 in
theorem FaceTogether_ok (f g : Fa) (hf : f.Small) (hg : g.Small) : Fp Try.prog 4 [f.av, g.av] (abool true) := by
  have h120 : decide ((120 : Int) = 0) = false := by decide
  refine Fp.of_vc tok Try.func4 rfl (by decide) ?_
  simp -implicitDefEqProofs only [go_sem, Try.ntmps4, Fa.av, Fa.cells]
  refine newK_intro fun n2 hn2 => ?_
  try simp -implicitDefEqProofs only [hset, List.map_append, List.map_cons, List.map_nil, List.cons_append, List.nil_append, List.mem_cons, List.mem_append, List.not_mem_nil, or_false, not_or] at hn2
  simp -implicitDefEqProofs only [go_sem]
  refine newK_intro fun n3 hn3 => ?_
  try simp -implicitDefEqProofs only [hset, List.map_append, List.map_cons, List.map_nil, List.cons_append, List.nil_append, List.mem_cons, List.mem_append, List.not_mem_nil, or_false, not_or] at hn3
  simp -implicitDefEqProofs only [go_sem, hn3, not_false_eq_true]
  refine opK_pure (light_ok f hf) rfl (Sub.of_eq (by first | rfl | simp -implicitDefEqProofs only [go_sem])) ?_
  simp -implicitDefEqProofs only [go_sem, hn3, not_false_eq_true]
  cases hL1 : lightB f with
  | false =>
    simp -implicitDefEqProofs only [go_sem, hn3, not_false_eq_true]
    refine opK_pure (awake_ok) rfl (Sub.of_eq (by first | rfl | simp -implicitDefEqProofs only [go_sem])) ?_
    simp -implicitDefEqProofs only [go_sem, hn3, not_false_eq_true]
    refine fnPost_ret tok ?_
    simp -implicitDefEqProofs only [go_sem, Try.results4]
  | true =>
  simp -implicitDefEqProofs only [go_sem, hn3, not_false_eq_true]
  refine opK_pure (light_ok g hg) rfl (Sub.of_eq (by first | rfl | simp -implicitDefEqProofs only [go_sem])) ?_
  simp -implicitDefEqProofs only [go_sem, hn3, not_false_eq_true]
  cases hL2 : lightB g with
  | false =>
    simp -implicitDefEqProofs only [go_sem, hn3, not_false_eq_true]
    refine opK_pure (awake_ok) rfl (Sub.of_eq (by first | rfl | simp -implicitDefEqProofs only [go_sem])) ?_
    simp -implicitDefEqProofs only [go_sem, hn3, not_false_eq_true]
    refine fnPost_ret tok ?_
    simp -implicitDefEqProofs only [go_sem, Try.results4]
  | true =>
  simp -implicitDefEqProofs only [go_sem, hn3, not_false_eq_true]
  refine AW.draw tok hmix ⟨[], [], [], false⟩ (by kernel_rfl) (Has.of_sub (List.nil_sublist _)) ?_
  simp -implicitDefEqProofs only [go_sem, hn3, not_false_eq_true]
  refine opK_pure (Paired_ok f g) rfl (Sub.of_eq (by first | rfl | simp -implicitDefEqProofs only [go_sem])) ?_
  simp -implicitDefEqProofs only [go_sem, hn3, not_false_eq_true]
  refine opK_pure (fault_ok f g (decide (andI f.out g.out = 0)) hf hg) rfl (Sub.of_eq (by first | rfl | simp -implicitDefEqProofs only [go_sem])) ?_
  simp -implicitDefEqProofs only [go_sem, hn3, not_false_eq_true, faultE_eq]
  refine opK_pure (IsR_ok f hf) rfl (Sub.of_eq (by first | rfl | simp -implicitDefEqProofs only [go_sem])) ?_
  simp -implicitDefEqProofs only [go_sem, hn3, not_false_eq_true, iA]
  refine newK_intro fun n7 hn7 => ?_
  try simp -implicitDefEqProofs only [hset, List.map_append, List.map_cons, List.map_nil, List.cons_append, List.nil_append, List.mem_cons, List.mem_append, List.not_mem_nil, or_false, not_or] at hn7
  simp -implicitDefEqProofs only [go_sem, hn3, not_false_eq_true, hn7]
  refine newK_intro fun n8 hn8 => ?_
  try simp -implicitDefEqProofs only [hset, List.map_append, List.map_cons, List.map_nil, List.cons_append, List.nil_append, List.mem_cons, List.mem_append, List.not_mem_nil, or_false, not_or] at hn8
  simp -implicitDefEqProofs only [go_sem, hn3, not_false_eq_true, hn7, hn8]
  obtain ⟨tp, htp⟩ : ∃ tp : List (Int × Int), tp = (togP f g).map fun x => ((x.1.1 : Int), (x.1.2 : Int)) := ⟨_, rfl⟩
  have hqp : qc (togP f g) = pc tp := by rw [htp]; rfl
  by_cases c0 : pairedE f g = 0
  rotate_left
  · have he : togE f g = pairedE f g := by simp only [togE, if_neg c0]
    have hR : togR f g = Fa.zero := by simp only [togR, he, if_neg c0]
    have hP : togP f g = [] := by simp only [togP, he, if_neg c0]
    have htS : (togR f g).Small := hR ▸ zero_small
    have hpl : tp.length * 16 ≤ 140737488351232 := by rw [htp, hP]; decide
    have hp0 : tp = [] := by rw [htp, hP]; rfl
    cases hvB : f.validB with
    | true =>
      have hoF : otherF f = f.turn := by simp [otherF, hvB]
      have hoE : otherE f = 0 := by simp [otherE, hvB]
      have hoS : (otherF f).Small := hoF ▸ turn_small hf
      simp -implicitDefEqProofs only [go_sem, hn3, not_false_eq_true, hn7, hn8]
      refine opK_pure (OtherR_ok f hf) rfl (Sub.of_eq (by first | rfl | simp -implicitDefEqProofs only [go_sem])) ?_
      simp -implicitDefEqProofs only [go_sem, hn3, not_false_eq_true, hn7, hn8, c0, decide_false, Fa.av, Fa.cells, iA]
      refine AW.draw tok hmix ⟨[], [], [], false⟩ (by kernel_rfl) (Has.of_sub (List.nil_sublist _)) ?_
      simp -implicitDefEqProofs only [go_sem, hn3, not_false_eq_true, hn7, hn8]
      refine opK_pure (Copy_ok f hf) rfl (Sub.of_eq (by first | rfl | simp -implicitDefEqProofs only [go_sem])) ?_
      simp -implicitDefEqProofs only [go_sem, hn3, not_false_eq_true, hn7, hn8]
      refine opK_pure (Copy_ok g hg) rfl (Sub.of_eq (by first | rfl | simp -implicitDefEqProofs only [go_sem])) ?_
      simp -implicitDefEqProofs only [go_sem, hn3, not_false_eq_true, hn7, hn8]
      refine opK_pure (Together_ok f g hf hg) rfl (Sub.of_eq (by first | rfl | simp -implicitDefEqProofs only [go_sem])) ?_
      simp -implicitDefEqProofs only [go_sem, hn3, not_false_eq_true, hn7, hn8, Fa.av, Fa.cells, iA]
      refine newK_intro fun n10 hn10 => ?_
      try simp -implicitDefEqProofs only [hset, List.map_append, List.map_cons, List.map_nil, List.cons_append, List.nil_append, List.mem_cons, List.mem_append, List.not_mem_nil, or_false, not_or] at hn10
      simp -implicitDefEqProofs only [go_sem, hn3, not_false_eq_true, hn7, hn8, hn10, Fa.av, Fa.cells, iA]
      refine opK_pure (Copy_ok f hf) rfl (Sub.of_eq (by first | rfl | simp -implicitDefEqProofs only [go_sem])) ?_
      simp -implicitDefEqProofs only [go_sem, hn3, not_false_eq_true, hn7, hn8, hn10, Fa.av, Fa.cells, iA]
      refine opK_pure (Other_ok f hf) rfl (Sub.of_eq (by first | rfl | simp -implicitDefEqProofs only [go_sem])) ?_
      simp -implicitDefEqProofs only [go_sem, hn3, not_false_eq_true, hn7, hn8, hn10, Fa.av, Fa.cells, iA]
      refine newK_intro fun n13 hn13 => ?_
      try simp -implicitDefEqProofs only [hset, List.map_append, List.map_cons, List.map_nil, List.cons_append, List.nil_append, List.mem_cons, List.mem_append, List.not_mem_nil, or_false, not_or] at hn13
      simp -implicitDefEqProofs only [go_sem, hn3, not_false_eq_true, hn7, hn8, hn10, hn13, hoE, h120, decide_true]
      refine opK_pure (Same_ok (otherF f) (otherF f) hoS hoS) rfl (Sub.of_eq (by rw [hoF]; rfl)) ?_
      simp -implicitDefEqProofs only [go_sem, hn3, not_false_eq_true, hn7, hn8, hn10, hn13, beq_self, he, decide_true]
      refine opK_pure (Same_ok (togR f g) (togR f g) htS htS) rfl (Sub.of_les (by rw [hR]; exact Les.cons (Le.refl _) (Les.cons le_zero Les.nil))) ?_
      simp -implicitDefEqProofs only [go_sem, hn3, not_false_eq_true, hn7, hn8, hn10, hn13, beq_self]
      refine opK_pure (SamePairs_ok tp tp hpl hpl) rfl (Sub.of_les (by rw [hqp, hp0]; exact Les.cons (Le.refl _) (Les.cons (Le.nil 2) Les.nil))) ?_
      simp -implicitDefEqProofs only [go_sem, hn3, not_false_eq_true, hn7, hn8, hn10, hn13, decide_true]
      refine opK_pure (awake_ok) rfl (Sub.of_eq (by first | rfl | simp -implicitDefEqProofs only [go_sem])) ?_
      simp -implicitDefEqProofs only [go_sem]
      refine fnPost_ret tok ?_
      simp -implicitDefEqProofs only [go_sem, Try.results4]
    | false =>
      have hoF : otherF f = Fa.zero := by simp [otherF, hvB]
      have hoE : otherE f = 120 := by simp [otherE, hvB]
      have hoS : (otherF f).Small := hoF ▸ zero_small
      simp -implicitDefEqProofs only [go_sem, hn3, not_false_eq_true, hn7, hn8, c0, decide_false]
      refine AW.draw tok hmix ⟨[], [], [], false⟩ (by kernel_rfl) (Has.of_sub (List.nil_sublist _)) ?_
      simp -implicitDefEqProofs only [go_sem, hn3, not_false_eq_true, hn7, hn8]
      refine opK_pure (Copy_ok f hf) rfl (Sub.of_eq (by first | rfl | simp -implicitDefEqProofs only [go_sem])) ?_
      simp -implicitDefEqProofs only [go_sem, hn3, not_false_eq_true, hn7, hn8]
      refine opK_pure (Copy_ok g hg) rfl (Sub.of_eq (by first | rfl | simp -implicitDefEqProofs only [go_sem])) ?_
      simp -implicitDefEqProofs only [go_sem, hn3, not_false_eq_true, hn7, hn8]
      refine opK_pure (Together_ok f g hf hg) rfl (Sub.of_eq (by first | rfl | simp -implicitDefEqProofs only [go_sem])) ?_
      simp -implicitDefEqProofs only [go_sem, hn3, not_false_eq_true, hn7, hn8, Fa.av, Fa.cells, iA]
      refine newK_intro fun n10 hn10 => ?_
      try simp -implicitDefEqProofs only [hset, List.map_append, List.map_cons, List.map_nil, List.cons_append, List.nil_append, List.mem_cons, List.mem_append, List.not_mem_nil, or_false, not_or] at hn10
      simp -implicitDefEqProofs only [go_sem, hn3, not_false_eq_true, hn7, hn8, hn10, Fa.av, Fa.cells, iA]
      refine opK_pure (Copy_ok f hf) rfl (Sub.of_eq (by first | rfl | simp -implicitDefEqProofs only [go_sem])) ?_
      simp -implicitDefEqProofs only [go_sem, hn3, not_false_eq_true, hn7, hn8, hn10, Fa.av, Fa.cells, iA]
      refine opK_pure (Other_ok f hf) rfl (Sub.of_eq (by first | rfl | simp -implicitDefEqProofs only [go_sem])) ?_
      simp -implicitDefEqProofs only [go_sem, hn3, not_false_eq_true, hn7, hn8, hn10, Fa.av, Fa.cells, iA]
      refine newK_intro fun n13 hn13 => ?_
      try simp -implicitDefEqProofs only [hset, List.map_append, List.map_cons, List.map_nil, List.cons_append, List.nil_append, List.mem_cons, List.mem_append, List.not_mem_nil, or_false, not_or] at hn13
      simp -implicitDefEqProofs only [go_sem, hn3, not_false_eq_true, hn7, hn8, hn10, hn13, hoE, h120, decide_true]
      refine opK_pure (Same_ok (otherF f) (otherF f) hoS hoS) rfl (Sub.of_les (by rw [hoF]; exact Les.cons (Le.refl _) (Les.cons le_zero Les.nil))) ?_
      simp -implicitDefEqProofs only [go_sem, hn3, not_false_eq_true, hn7, hn8, hn10, hn13, beq_self, he, decide_true]
      refine opK_pure (Same_ok (togR f g) (togR f g) htS htS) rfl (Sub.of_les (by rw [hR]; exact Les.cons (Le.refl _) (Les.cons le_zero Les.nil))) ?_
      simp -implicitDefEqProofs only [go_sem, hn3, not_false_eq_true, hn7, hn8, hn10, hn13, beq_self]
      refine opK_pure (SamePairs_ok tp tp hpl hpl) rfl (Sub.of_les (by rw [hqp, hp0]; exact Les.cons (Le.refl _) (Les.cons (Le.nil 2) Les.nil))) ?_
      simp -implicitDefEqProofs only [go_sem, hn3, not_false_eq_true, hn7, hn8, hn10, hn13, decide_true]
      refine opK_pure (awake_ok) rfl (Sub.of_eq (by first | rfl | simp -implicitDefEqProofs only [go_sem])) ?_
      simp -implicitDefEqProofs only [go_sem]
      refine fnPost_ret tok ?_
      simp -implicitDefEqProofs only [go_sem, Try.results4]
  obtain ⟨h1, h2⟩ := paired_val c0
  obtain ⟨hv, hw, _⟩ := fine_val h1
  have hvB : f.validB = true := by
    unfold fineE at h1
    split at h1
    · rename_i h; simp only [Bool.and_eq_true] at h; exact h.1
    · omega
  have hoF : otherF f = f.turn := by simp [otherF, hvB]
  have hoE : otherE f = 0 := by simp [otherE, hvB]
  have hoS : (otherF f).Small := hoF ▸ turn_small hf
  simp -implicitDefEqProofs only [go_sem, hn3, not_false_eq_true, hn7, hn8, hvB]
  refine opK_pure (OtherR_ok f hf) rfl (Sub.of_eq (by first | rfl | simp -implicitDefEqProofs only [go_sem])) ?_
  simp -implicitDefEqProofs only [go_sem, hn3, not_false_eq_true, hn7, hn8, c0, decide_true, Fa.av, Fa.cells, iA]
  refine opK_pure (FitsR_ok f g hv hw) rfl (Sub.of_eq (by first | rfl | simp -implicitDefEqProofs only [go_sem])) ?_
  have hlw := lost_way hv hw
  cases hl : lostD f g f.acts.length (0, 0) with
  | true =>
    have hw2 := hlw.2 hl
    have hD : fitsD f g f.acts.length = ((wayW f g f.acts.length).length : Int) := by simp [fitsD, hw2]
    have hge : ((wayW f g f.acts.length).length : Int) ≥ 0 := by omega
    have he : togE f g = 3 := by simp only [togE, if_pos c0, hl, if_true]
    have hR : togR f g = Fa.zero := by simp only [togR, he]; rfl
    have hP : togP f g = [] := by simp only [togP, he]; rfl
    have htS : (togR f g).Small := hR ▸ zero_small
    have hpl : tp.length * 16 ≤ 140737488351232 := by rw [htp, hP]; decide
    have hp0 : tp = [] := by rw [htp, hP]; rfl
    have h30 : decide ((3 : Int) = 0) = false := by decide
    simp -implicitDefEqProofs only [go_sem, hn3, not_false_eq_true, hn7, hn8, hD, hge, decide_true, iA, h30]
    refine AW.draw tok hmix ⟨[], [], [], false⟩ (by kernel_rfl) (Has.of_sub (List.nil_sublist _)) ?_
    simp -implicitDefEqProofs only [go_sem, hn3, not_false_eq_true, hn7, hn8]
    refine opK_pure (Copy_ok f hf) rfl (Sub.of_eq (by first | rfl | simp -implicitDefEqProofs only [go_sem])) ?_
    simp -implicitDefEqProofs only [go_sem, hn3, not_false_eq_true, hn7, hn8]
    refine opK_pure (Copy_ok g hg) rfl (Sub.of_eq (by first | rfl | simp -implicitDefEqProofs only [go_sem])) ?_
    simp -implicitDefEqProofs only [go_sem, hn3, not_false_eq_true, hn7, hn8]
    refine opK_pure (Together_ok f g hf hg) rfl (Sub.of_eq (by first | rfl | simp -implicitDefEqProofs only [go_sem])) ?_
    simp -implicitDefEqProofs only [go_sem, hn3, not_false_eq_true, hn7, hn8, Fa.av, Fa.cells, iA]
    refine newK_intro fun n10 hn10 => ?_
    try simp -implicitDefEqProofs only [hset, List.map_append, List.map_cons, List.map_nil, List.cons_append, List.nil_append, List.mem_cons, List.mem_append, List.not_mem_nil, or_false, not_or] at hn10
    simp -implicitDefEqProofs only [go_sem, hn3, not_false_eq_true, hn7, hn8, hn10, Fa.av, Fa.cells, iA]
    refine opK_pure (Copy_ok f hf) rfl (Sub.of_eq (by first | rfl | simp -implicitDefEqProofs only [go_sem])) ?_
    simp -implicitDefEqProofs only [go_sem, hn3, not_false_eq_true, hn7, hn8, hn10, Fa.av, Fa.cells, iA]
    refine opK_pure (Other_ok f hf) rfl (Sub.of_eq (by first | rfl | simp -implicitDefEqProofs only [go_sem])) ?_
    simp -implicitDefEqProofs only [go_sem, hn3, not_false_eq_true, hn7, hn8, hn10, Fa.av, Fa.cells, iA]
    refine newK_intro fun n13 hn13 => ?_
    try simp -implicitDefEqProofs only [hset, List.map_append, List.map_cons, List.map_nil, List.cons_append, List.nil_append, List.mem_cons, List.mem_append, List.not_mem_nil, or_false, not_or] at hn13
    simp -implicitDefEqProofs only [go_sem, hn3, not_false_eq_true, hn7, hn8, hn10, hn13, hoE, h120, decide_true]
    refine opK_pure (Same_ok (otherF f) (otherF f) hoS hoS) rfl (Sub.of_eq (by rw [hoF]; rfl)) ?_
    simp -implicitDefEqProofs only [go_sem, hn3, not_false_eq_true, hn7, hn8, hn10, hn13, beq_self, he, decide_true]
    refine opK_pure (Same_ok (togR f g) (togR f g) htS htS) rfl (Sub.of_les (by rw [hR]; exact Les.cons (Le.refl _) (Les.cons le_zero Les.nil))) ?_
    simp -implicitDefEqProofs only [go_sem, hn3, not_false_eq_true, hn7, hn8, hn10, hn13, beq_self]
    refine opK_pure (SamePairs_ok tp tp hpl hpl) rfl (Sub.of_les (by rw [hqp, hp0]; exact Les.cons (Le.refl _) (Les.cons (Le.nil 2) Les.nil))) ?_
    simp -implicitDefEqProofs only [go_sem, hn3, not_false_eq_true, hn7, hn8, hn10, hn13, decide_true]
    refine opK_pure (awake_ok) rfl (Sub.of_eq (by first | rfl | simp -implicitDefEqProofs only [go_sem])) ?_
    simp -implicitDefEqProofs only [go_sem]
    refine fnPost_ret tok ?_
    simp -implicitDefEqProofs only [go_sem, Try.results4]
  | false =>
  have hw2 : ¬ (wayI f g f.acts.length < (wayL f g f.acts.length).length) := fun h => by rw [hlw.1 h] at hl; cases hl
  have hD : fitsD f g f.acts.length = -1 := by simp [fitsD, hw2]
  have hge : decide ((-1 : Int) ≥ 0) = false := by decide
  simp -implicitDefEqProofs only [go_sem, hn3, not_false_eq_true, hn7, hn8, hD, hge, iA, c0, decide_true]
  refine opK_pure (TogetherR_ok f g hv hw hf) rfl (Sub.of_eq (by first | rfl | simp -implicitDefEqProofs only [go_sem])) ?_
  have hln : (togF f g f.acts.length (keepD f g f.acts.length)).sts.length = (togL f g f.acts.length (keepD f g f.acts.length)).length := by simp [togF]
  have hll : (togL f g f.acts.length (keepD f g f.acts.length)).length * 16 ≤ 140737488351232 := by
    have h1 : (togL f g f.acts.length (keepD f g f.acts.length)).length ≤ f.sts.length * g.sts.length := in_length (foundL_nodup f g f.acts.length (ownS f g) (keepD f g f.acts.length)) (foundL_in hv hw)
    have h4 : f.sts.length * g.sts.length ≤ 500 * 500 := Nat.mul_le_mul hv.few hw.few
    omega
  by_cases h5 : 500 < (togL f g f.acts.length (keepD f g f.acts.length)).length
  · have he : togE f g = 2 := by simp only [togE, if_pos c0, hl, if_pos h5]; rfl
    have hR : togR f g = Fa.zero := by simp only [togR, he]; rfl
    have hP : togP f g = [] := by simp only [togP, he]; rfl
    have htS : (togR f g).Small := hR ▸ zero_small
    have hpl : tp.length * 16 ≤ 140737488351232 := by rw [htp, hP]; decide
    have hp0 : tp = [] := by rw [htp, hP]; rfl
    have hgt : (((togL f g f.acts.length (keepD f g f.acts.length)).length : Nat) : Int) > 500 := by omega
    simp -implicitDefEqProofs only [go_sem, hn3, not_false_eq_true, hn7, hn8, Fa.av, Fa.cells, iA, hln, hgt, decide_true]
    refine AW.draw tok hmix ⟨[], [], [], false⟩ (by kernel_rfl) (Has.of_sub (List.nil_sublist _)) ?_
    simp -implicitDefEqProofs only [go_sem, hn3, not_false_eq_true, hn7, hn8]
    refine opK_pure (Copy_ok f hf) rfl (Sub.of_eq (by first | rfl | simp -implicitDefEqProofs only [go_sem])) ?_
    simp -implicitDefEqProofs only [go_sem, hn3, not_false_eq_true, hn7, hn8]
    refine opK_pure (Copy_ok g hg) rfl (Sub.of_eq (by first | rfl | simp -implicitDefEqProofs only [go_sem])) ?_
    simp -implicitDefEqProofs only [go_sem, hn3, not_false_eq_true, hn7, hn8]
    refine opK_pure (Together_ok f g hf hg) rfl (Sub.of_eq (by first | rfl | simp -implicitDefEqProofs only [go_sem])) ?_
    simp -implicitDefEqProofs only [go_sem, hn3, not_false_eq_true, hn7, hn8, Fa.av, Fa.cells, iA]
    refine newK_intro fun n10 hn10 => ?_
    try simp -implicitDefEqProofs only [hset, List.map_append, List.map_cons, List.map_nil, List.cons_append, List.nil_append, List.mem_cons, List.mem_append, List.not_mem_nil, or_false, not_or] at hn10
    simp -implicitDefEqProofs only [go_sem, hn3, not_false_eq_true, hn7, hn8, hn10, Fa.av, Fa.cells, iA]
    refine opK_pure (Copy_ok f hf) rfl (Sub.of_eq (by first | rfl | simp -implicitDefEqProofs only [go_sem])) ?_
    simp -implicitDefEqProofs only [go_sem, hn3, not_false_eq_true, hn7, hn8, hn10, Fa.av, Fa.cells, iA]
    refine opK_pure (Other_ok f hf) rfl (Sub.of_eq (by first | rfl | simp -implicitDefEqProofs only [go_sem])) ?_
    simp -implicitDefEqProofs only [go_sem, hn3, not_false_eq_true, hn7, hn8, hn10, Fa.av, Fa.cells, iA]
    refine newK_intro fun n13 hn13 => ?_
    try simp -implicitDefEqProofs only [hset, List.map_append, List.map_cons, List.map_nil, List.cons_append, List.nil_append, List.mem_cons, List.mem_append, List.not_mem_nil, or_false, not_or] at hn13
    simp -implicitDefEqProofs only [go_sem, hn3, not_false_eq_true, hn7, hn8, hn10, hn13, hoE, h120, decide_true]
    refine opK_pure (Same_ok (otherF f) (otherF f) hoS hoS) rfl (Sub.of_eq (by rw [hoF]; rfl)) ?_
    simp -implicitDefEqProofs only [go_sem, hn3, not_false_eq_true, hn7, hn8, hn10, hn13, beq_self, he, decide_true]
    refine opK_pure (Same_ok (togR f g) (togR f g) htS htS) rfl (Sub.of_les (by rw [hR]; exact Les.cons (Le.refl _) (Les.cons le_zero Les.nil))) ?_
    simp -implicitDefEqProofs only [go_sem, hn3, not_false_eq_true, hn7, hn8, hn10, hn13, beq_self]
    refine opK_pure (SamePairs_ok tp tp hpl hpl) rfl (Sub.of_les (by rw [hqp, hp0]; exact Les.cons (Le.refl _) (Les.cons (Le.nil 2) Les.nil))) ?_
    simp -implicitDefEqProofs only [go_sem, hn3, not_false_eq_true, hn7, hn8, hn10, hn13, decide_true]
    refine opK_pure (awake_ok) rfl (Sub.of_eq (by first | rfl | simp -implicitDefEqProofs only [go_sem])) ?_
    simp -implicitDefEqProofs only [go_sem]
    refine fnPost_ret tok ?_
    simp -implicitDefEqProofs only [go_sem, Try.results4]
  · have he : togE f g = 0 := by simp only [togE, if_pos c0, hl, if_neg h5]; rfl
    have hR : togR f g = togF f g f.acts.length (keepD f g f.acts.length) := by simp only [togR, he, if_true]
    have hP : togP f g = togL f g f.acts.length (keepD f g f.acts.length) := by simp only [togP, he, if_true]
    have htS : (togR f g).Small := hR ▸ togF_small hv hw hf _
    have hpl : tp.length * 16 ≤ 140737488351232 := by rw [htp, hP, List.length_map]; exact hll
    have hgt : ¬ ((((togL f g f.acts.length (keepD f g f.acts.length)).length : Nat) : Int) > 500) := by omega
    simp -implicitDefEqProofs only [go_sem, hn3, not_false_eq_true, hn7, hn8, Fa.av, Fa.cells, iA, hln, hgt, decide_false]
    refine AW.draw tok hmix ⟨[], [], [], false⟩ (by kernel_rfl) (Has.of_sub (List.nil_sublist _)) ?_
    simp -implicitDefEqProofs only [go_sem, hn3, not_false_eq_true, hn7, hn8]
    refine opK_pure (Copy_ok f hf) rfl (Sub.of_eq (by first | rfl | simp -implicitDefEqProofs only [go_sem])) ?_
    simp -implicitDefEqProofs only [go_sem, hn3, not_false_eq_true, hn7, hn8]
    refine opK_pure (Copy_ok g hg) rfl (Sub.of_eq (by first | rfl | simp -implicitDefEqProofs only [go_sem])) ?_
    simp -implicitDefEqProofs only [go_sem, hn3, not_false_eq_true, hn7, hn8]
    refine opK_pure (Together_ok f g hf hg) rfl (Sub.of_eq (by first | rfl | simp -implicitDefEqProofs only [go_sem])) ?_
    simp -implicitDefEqProofs only [go_sem, hn3, not_false_eq_true, hn7, hn8, Fa.av, Fa.cells, iA]
    refine newK_intro fun n10 hn10 => ?_
    try simp -implicitDefEqProofs only [hset, List.map_append, List.map_cons, List.map_nil, List.cons_append, List.nil_append, List.mem_cons, List.mem_append, List.not_mem_nil, or_false, not_or] at hn10
    simp -implicitDefEqProofs only [go_sem, hn3, not_false_eq_true, hn7, hn8, hn10, Fa.av, Fa.cells, iA]
    refine opK_pure (Copy_ok f hf) rfl (Sub.of_eq (by first | rfl | simp -implicitDefEqProofs only [go_sem])) ?_
    simp -implicitDefEqProofs only [go_sem, hn3, not_false_eq_true, hn7, hn8, hn10, Fa.av, Fa.cells, iA]
    refine opK_pure (Other_ok f hf) rfl (Sub.of_eq (by first | rfl | simp -implicitDefEqProofs only [go_sem])) ?_
    simp -implicitDefEqProofs only [go_sem, hn3, not_false_eq_true, hn7, hn8, hn10, Fa.av, Fa.cells, iA]
    refine newK_intro fun n13 hn13 => ?_
    try simp -implicitDefEqProofs only [hset, List.map_append, List.map_cons, List.map_nil, List.cons_append, List.nil_append, List.mem_cons, List.mem_append, List.not_mem_nil, or_false, not_or] at hn13
    simp -implicitDefEqProofs only [go_sem, hn3, not_false_eq_true, hn7, hn8, hn10, hn13, hoE, h120, decide_true]
    refine opK_pure (Same_ok (otherF f) (otherF f) hoS hoS) rfl (Sub.of_eq (by rw [hoF]; rfl)) ?_
    simp -implicitDefEqProofs only [go_sem, hn3, not_false_eq_true, hn7, hn8, hn10, hn13, beq_self, he, decide_true]
    refine opK_pure (Same_ok (togR f g) (togR f g) htS htS) rfl (Sub.of_eq (by rw [hR]; rfl)) ?_
    simp -implicitDefEqProofs only [go_sem, hn3, not_false_eq_true, hn7, hn8, hn10, hn13, beq_self]
    refine opK_pure (SamePairs_ok tp tp hpl hpl) rfl (Sub.of_eq (by rw [← hP, hqp]; rfl)) ?_
    simp -implicitDefEqProofs only [go_sem, hn3, not_false_eq_true, hn7, hn8, hn10, hn13, decide_true]
    refine opK_pure (awake_ok) rfl (Sub.of_eq (by first | rfl | simp -implicitDefEqProofs only [go_sem])) ?_
    simp -implicitDefEqProofs only [go_sem]
    refine fnPost_ret tok ?_
    simp -implicitDefEqProofs only [go_sem, Try.results4]

theorem FaceTogether_fc (xs : List AV) (h : ShAs TT0 [25, 25] xs) : Fc Try.prog 4 xs [] fun x _ => x = abool true := by
  cases h with
  | cons h1 h =>
  cases h with
  | cons h2 h =>
  cases h
  obtain ⟨f, hf, rfl⟩ := shA_face h1
  obtain ⟨g, hg, rfl⟩ := shA_face h2
  exact FaceTogether_ok f g hf hg
end Go.Proofs.Ytebbiciepbbhkaa
/- Chapter 12, part Ua: whichever of two faces comes first. -/
namespace Go.Proofs.Ytebbiciepbbhkaa
open Go Go.NS

section
variable {α β L : Type} [DecidableEq α] [DecidableEq β]

def mp1 (φ : α → β) (x : α × L) : β × L := (φ x.1, x.2)

theorem push_map {φ : α → β} {P : α → Prop} (inj : ∀ a b, P a → P b → φ a = φ b → a = b) {q : List (α × L)} {x : α × L} (hq : ∀ y ∈ q, P y.1) (hx : P x.1) : push (q.map (mp1 φ)) (mp1 φ x) = (push q x).map (mp1 φ) := by
  by_cases h : x.1 ∈ q.map (·.1)
  · rw [push_old h, push_old]
    obtain ⟨y, hy, e⟩ := List.mem_map.1 h
    rw [List.map_map]
    exact List.mem_map.2 ⟨y, hy, by simp [mp1, e]⟩
  · rw [push_new h, push_new, List.map_append]
    · rfl
    · intro h2
      rw [List.map_map] at h2
      obtain ⟨y, hy, e⟩ := List.mem_map.1 h2
      exact h (List.mem_map.2 ⟨y, hy, inj _ _ (hq y hy) hx e⟩)

theorem pushAll_map {φ : α → β} {P : α → Prop} (inj : ∀ a b, P a → P b → φ a = φ b → a = b) : ∀ {xs q : List (α × L)}, (∀ y ∈ q, P y.1) → (∀ y ∈ xs, P y.1) → pushAll (q.map (mp1 φ)) (xs.map (mp1 φ)) = (pushAll q xs).map (mp1 φ)
  | [], _, _, _ => rfl
  | x :: xs, q, hq, hx => by
    rw [List.map_cons, pushAll_cons, pushAll_cons, push_map inj hq (hx x (by simp))]
    refine pushAll_map inj (fun y hy => ?_) fun y hy => hx y (by simp [hy])
    rcases push_mem hy with hy | rfl
    · exact hq y hy
    · exact hx _ (by simp)

/-- Two searches that do the same. -/
theorem bfs_map {φ : α → β} {P : α → Prop} (inj : ∀ a b, P a → P b → φ a = φ b → a = b) {s : Nat → α → List (α × L)} {s' : Nat → β → List (β × L)} (hs : ∀ i a, P a → s' i (φ a) = (s i a).map (mp1 φ)) (hP : ∀ i a, P a → ∀ y ∈ s i a, P y.1) :
    ∀ (n i : Nat) (q : List (α × L)), (∀ y ∈ q, P y.1) → bfs s' n i (q.map (mp1 φ)) = (bfs s n i q).map (mp1 φ)
  | 0, _, _, _ => rfl
  | n + 1, i, q, hq => by
    simp only [bfs, List.getElem?_map]
    cases hx : q[i]? with
    | none => rfl
    | some x =>
      have hxP := hq x (List.mem_of_getElem? hx)
      simp only [Option.map_some]
      have e : s' i (mp1 φ x).1 = (s i x.1).map (mp1 φ) := hs i x.1 hxP
      rw [e, pushAll_map inj hq (hP i x.1 hxP)]
      refine bfs_map inj hs hP n (i + 1) _ fun y hy => ?_
      rcases pushAll_mem hy with hy | hy
      · exact hq y hy
      · exact hP i x.1 hxP y hy

theorem bfs_more {s : Nat → α → List (α × L)} : ∀ (n i : Nat) (q : List (α × L)) (k : Nat), (bfs s n i q).length ≤ i + n → bfs s (n + k) i q = bfs s n i q
  | 0, i, q, k, h => by
    have h' : q.length ≤ i := by simpa [bfs] using h
    rw [bfs_stop s h', bfs_stop s h']
  | n + 1, i, q, k, h => by
    have e : n + 1 + k = (n + k) + 1 := by omega
    rw [e]
    simp only [bfs] at h ⊢
    cases hx : q[i]? with
    | none => rfl
    | some x =>
      simp only [hx] at h
      exact bfs_more n (i + 1) _ k (by omega)
end

def sw (p : Pr) : Pr := (p.2, p.1)
theorem sw_sw (p : Pr) : sw (sw p) = p := rfl
theorem sw_inj {p q : Pr} (h : sw p = sw q) : p = q := by have := congrArg sw h; exact this

theorem orI_comm (x y : Int) : orI x y = orI y x := by unfold orI; rw [bit2_orE, bit2_orE, BitVec.or_comm]
theorem andI_comm (x y : Int) : andI x y = andI y x := by unfold andI; rw [bit2_andE, bit2_andE, BitVec.and_comm]

theorem stepN_sw (f g : Fa) (p : Pr) (a : Nat) : stepN g f (sw p) a = (stepN f g p a).map sw := by
  have hB : stepB g f (sw p).1 (sw p).2 a = stepB f g p.1 p.2 a := by
    unfold stepB
    rw [orI_comm (orI g.inn g.out)]
    simp only [sw, stepI]
    cases hasI (orI (orI f.inn f.out) (orI g.inn g.out)) a <;> simp [Bool.and_comm]
  unfold stepN
  rw [hB]
  split <;> rfl
theorem brokenB_sw (f g : Fa) (n x y : Nat) : brokenB g f n y x = brokenB f g n x y := by unfold brokenB; rw [Bool.or_comm]
theorem lostN_sw (f g : Fa) (n k : Nat) (p : Pr) : lostN g f n k (sw p) = lostN f g n k p := by
  induction k generalizing p with
  | zero => exact brokenB_sw f g n p.1 p.2
  | succ k ih =>
    simp only [lostN, ih, Nat.or_comm g.oN f.oN]
    congr 1
    congr 1
    funext a
    rw [stepN_sw]
    cases stepN f g p a with
    | none => rfl
    | some q => exact ih q
theorem lostD_sw (f g : Fa) (n : Nat) (p : Pr) : lostD g f n (sw p) = lostD f g n p := by
  unfold lostD
  rw [decide_eq_decide]
  unfold lostP
  simp only [lostN_sw]
theorem keepD_sw (f g : Fa) (n : Nat) (p : Pr) : keepD g f n (sw p) = keepD f g n p := by unfold keepD; rw [lostD_sw]
theorem ownS_sw (f g : Fa) : ownS g f = ownS f g := by unfold ownS; exact Nat.or_comm _ _

theorem foundL_sw (f g : Fa) (n s : Nat) {k1 k2 : Pr → Bool} (hk : ∀ p, k2 (sw p) = k1 p) : foundL g f n s k2 = (foundL f g n s k1).map (mp1 sw) := by
  have h := bfs_map (L := Int × Int) (φ := sw) (P := fun _ => True) (fun a b _ _ e => sw_inj e) (s := fun i p => sucs f g k1 i p (bits n s)) (s' := fun i p => sucs g f k2 i p (bits n s)) (fun i p _ => by
    unfold sucs
    rw [List.map_filterMap]
    refine filterMap_congr' fun a _ => ?_
    unfold suc1
    rw [stepN_sw]
    cases stepN f g p a with
    | none => rfl
    | some q =>
      simp only [Option.map_some, Option.bind_some, hk]
      split <;> rfl) (fun _ _ _ _ _ => trivial) (f.sts.length * g.sts.length + 1) 0 [((0, 0), (-1, 0))] (fun _ _ => trivial)
  unfold foundL
  rw [Nat.mul_comm g.sts.length]
  exact h

theorem togL_sw (f g : Fa) (n : Nat) : togL g f n (keepD g f n) = (togL f g n (keepD f g n)).map (mp1 sw) := by
  unfold togL; rw [ownS_sw]; exact foundL_sw f g n _ (keepD_sw f g n)

theorem idxOf_map {α β : Type} [BEq α] [LawfulBEq α] [BEq β] [LawfulBEq β] {φ : α → β} (inj : ∀ a b, φ a = φ b → a = b) (x : α) : ∀ l : List α, (l.map φ).idxOf (φ x) = l.idxOf x
  | [] => rfl
  | y :: l => by
    rw [List.map_cons, List.idxOf_cons, List.idxOf_cons, idxOf_map inj x l]
    by_cases e : y = x
    · subst e; simp
    · have h2 : ¬ φ y = φ x := fun h => e (inj _ _ h)
      have b1 : (y == x) = false := beq_eq_false_iff_ne.2 e
      have b2 : (φ y == φ x) = false := beq_eq_false_iff_ne.2 h2
      rw [b1, b2]

theorem rowT_sw (f g : Fa) (n : Nat) (L : List It) (p : Pr) : rowT g f n (keepD g f n) (L.map (mp1 sw)) (sw p) = rowT f g n (keepD f g n) L p := by
  unfold rowT
  refine List.map_congr_left fun a _ => ?_
  rw [stepN_sw]
  cases stepN f g p a with
  | none => rfl
  | some q =>
    simp only [Option.map_some, keepD_sw]
    split
    · have e : (L.map (mp1 sw)).map (·.1) = (L.map (·.1)).map sw := by rw [List.map_map, List.map_map]; rfl
      rw [e, idxOf_map (fun a b h => sw_inj h)]
    · rfl

theorem togF_sw {f g : Fa} (ha : f.acts = g.acts) (n : Nat) : togF g f n (keepD g f n) = togF f g n (keepD f g n) := by
  unfold togF
  rw [togL_sw, ha, Nat.or_comm g.iN, Nat.or_comm g.oN, List.map_map]
  congr 1
  exact List.map_congr_left fun x _ => rowT_sw f g n _ x.1

theorem fineE_sw (f g : Fa) : fineE g f = fineE f g := by
  unfold fineE
  rw [Bool.and_comm]
  by_cases h : f.acts = g.acts
  · simp [h]
  · have : ¬ g.acts = f.acts := fun e => h e.symm
    simp [h, this]
theorem pairedE_sw (f g : Fa) : pairedE g f = pairedE f g := by unfold pairedE; rw [fineE_sw, andI_comm]

theorem tog_sw (f g : Fa) : togE g f = togE f g ∧ togR g f = togR f g ∧ togP g f = (togP f g).map (mp1 sw) := by
  have hE : togE g f = togE f g := by
    by_cases h : pairedE f g = 0
    · have ha := (fine_val (paired_val h).1).2.2
      have hl : lostD g f g.acts.length (0, 0) = lostD f g f.acts.length (0, 0) := by rw [ha]; exact lostD_sw f g _ (0, 0)
      unfold togE
      rw [pairedE_sw, hl, if_pos h, if_pos h, ← ha, togL_sw, List.length_map]
    · unfold togE
      rw [pairedE_sw, if_neg h, if_neg h]
  refine ⟨hE, ?_, ?_⟩
  · unfold togR
    rw [hE]
    by_cases h0 : togE f g = 0
    · rw [if_pos h0, if_pos h0]
      have h : pairedE f g = 0 := by
        unfold togE at h0; split at h0
        · assumption
        · exact h0
      have ha := (fine_val (paired_val h).1).2.2
      rw [← ha, togF_sw ha]
    · rw [if_neg h0, if_neg h0]
  · unfold togP
    rw [hE]
    by_cases h0 : togE f g = 0
    · rw [if_pos h0, if_pos h0]
      have h : pairedE f g = 0 := by
        unfold togE at h0; split at h0
        · assumption
        · exact h0
      have ha := (fine_val (paired_val h).1).2.2
      rw [← ha, togL_sw]
    · rw [if_neg h0, if_neg h0]; rfl
end Go.Proofs.Ytebbiciepbbhkaa
/- Chapter 12, part Tv: both together are valid; worlds of a face: plain part. -/
namespace Go.Proofs.Ytebbiciepbbhkaa
open Go Go.NS

/-- A face is valid, out of its parts. -/
theorem valid_of {f : Fa} {n i o : Nat} (ha : actsB f.acts = true) (hn : f.acts.length = n) (hi : f.inn = (i : Int)) (ho : f.out = (o : Int)) (hil : i < 2 ^ n) (hol : o < 2 ^ n) (hd : i &&& o = 0) (h1 : 1 ≤ f.sts.length) (h5 : f.sts.length ≤ 500)
    (hr : ∀ r ∈ f.sts, r.length = n ∧ ∀ a, a < n → -1 ≤ r.getD a 0 ∧ r.getD a 0 < f.sts.length ∧ (0 ≤ r.getD a 0 → (i ||| o).testBit a = true)) : f.validB = true := by
  have h8 : n ≤ 8 := hn ▸ actsB_le ha
  have hp := pow8 h8
  have hor : orI f.inn f.out = ((i ||| o : Nat) : Int) := by rw [hi, ho]; exact orI_nat (by omega) (by omega)
  have horl := Nat.or_lt_two_pow hil hol
  simp only [Fa.validB, Fa.headB, Bool.and_eq_true, decide_eq_true_eq, List.all_eq_true]
  refine ⟨⟨⟨⟨⟨⟨ha, ?_⟩, ?_⟩, ?_⟩, h1⟩, h5⟩, fun r hm => ?_⟩
  · rw [hn, hi]; simp only [setI, Bool.and_eq_true, decide_eq_true_eq]; omega
  · rw [hn, ho]; simp only [setI, Bool.and_eq_true, decide_eq_true_eq]; omega
  · unfold andI; rw [hi, ho, bit2_and _ _ (by omega) (by omega), hd]; rfl
  · obtain ⟨hl, hc⟩ := hr r hm
    simp only [Fa.rowB, Bool.and_eq_true, decide_eq_true_eq, List.all_eq_true, List.mem_range]
    refine ⟨by rw [hl, hn], fun a ha2 => ?_⟩
    obtain ⟨c1, c2, c3⟩ := hc a (by omega)
    simp only [cellB, Bool.and_eq_true, Bool.or_eq_true, decide_eq_true_eq]
    refine ⟨⟨c1, c2⟩, ?_⟩
    by_cases h : r.getD a 0 < 0
    · exact .inl h
    · refine .inr ?_
      rw [hor, hasI_nat _ _ (by omega) (by omega)]
      exact c3 (by omega)

theorem rowT_at {f g : Fa} {n a : Nat} {keep : Pr → Bool} {L : List It} {p : Pr} (ha : a < n) : (rowT f g n keep L p).getD a 0 = match stepN f g p a with
    | some q => if keep q then (((L.map (·.1)).idxOf q : Nat) : Int) else -1
    | none => -1 := by
  unfold rowT
  rw [List.getD, List.getElem?_map, List.getElem?_range ha]
  rfl

/-- The bits of what both send and accept. -/
theorem tog_bits (f g : Fa) : nAndNot (f.iN ||| g.iN) (f.oN ||| g.oN) ||| (f.oN ||| g.oN) = ownS f g := by
  apply Nat.eq_of_testBit_eq
  intro a
  simp only [ownS, Nat.testBit_or, nAndNot_bit]
  cases f.iN.testBit a <;> cases g.iN.testBit a <;> cases f.oN.testBit a <;> cases g.oN.testBit a <;> rfl
theorem tog_dis (f g : Fa) : nAndNot (f.iN ||| g.iN) (f.oN ||| g.oN) &&& (f.oN ||| g.oN) = 0 := by
  apply Nat.eq_of_testBit_eq
  intro a
  simp only [Nat.testBit_and, Nat.testBit_or, nAndNot_bit, Nat.zero_testBit]
  cases f.iN.testBit a <;> cases g.iN.testBit a <;> cases f.oN.testBit a <;> cases g.oN.testBit a <;> rfl
theorem nAndNot_lt {m k n : Nat} (h : m < 2 ^ n) : nAndNot m k < 2 ^ n := by
  unfold nAndNot
  exact Nat.xor_lt_two_pow h (Nat.lt_of_le_of_lt Nat.and_le_left h)

theorem togF_valid {f g : Fa} {n : Nat} (hf : f.Val n) (hg : g.Val n) {keep : Pr → Bool} (h5 : (togL f g n keep).length ≤ 500) : (togF f g n keep).validB = true := by
  have a1 := hf.ilt; have a2 := hf.olt; have a3 := hg.ilt; have a4 := hg.olt
  have b1 : f.iN ||| g.iN < 2 ^ n := Nat.or_lt_two_pow a1 a3
  have b2 : f.oN ||| g.oN < 2 ^ n := Nat.or_lt_two_pow a2 a4
  obtain ⟨h0, _⟩ := foundL_zero f g n (ownS f g) keep
  refine valid_of (n := n) (i := nAndNot (f.iN ||| g.iN) (f.oN ||| g.oN)) (o := f.oN ||| g.oN) hf.acts hf.len rfl rfl (nAndNot_lt b1) b2 (tog_dis f g) ?_ ?_ ?_
  · simp only [togF, List.length_map]; exact h0
  · simp only [togF, List.length_map]; exact h5
  · intro r hr
    simp only [togF, List.mem_map] at hr
    obtain ⟨x, hx, rfl⟩ := hr
    obtain ⟨j, hj, rfl⟩ := List.getElem_of_mem hx
    refine ⟨by simp [rowT], fun a ha => ?_⟩
    rw [rowT_at ha, tog_bits]
    simp only [togF, List.length_map]
    cases hst : stepN f g (togL f g n keep)[j].1 a with
    | none => exact ⟨by simp, by simp only; omega, by simp⟩
    | some q =>
      simp only
      have hown : (ownS f g).testBit a = true := by
        cases hb : (ownS f g).testBit a with
        | true => rfl
        | false => rw [stepN_own hf hg ha hb] at hst; cases hst
      by_cases hk : keep q = true
      · rw [if_pos hk]
        have hm : q ∈ (togL f g n keep).map (·.1) := foundL_closed hf hg hj (by simp only [bits, List.mem_filter, List.mem_range]; exact ⟨ha, hown⟩) hst hk
        have := List.idxOf_lt_length_iff.2 hm
        rw [List.length_map] at this
        exact ⟨by omega, by omega, fun _ => hown⟩
      · rw [if_neg hk]
        exact ⟨by omega, by omega, fun h => by omega⟩

theorem turn_valid {f : Fa} {n : Nat} (hf : f.Val n) : f.turn.validB = true := by
  refine valid_of (f := f.turn) (n := n) (i := f.oN) (o := f.iN) hf.acts hf.len hf.out hf.inn hf.olt hf.ilt (by rw [Nat.and_comm]; exact hf.dis) hf.pos hf.few ?_
  intro r hr
  obtain ⟨x, hx, rfl⟩ := List.getElem_of_mem hr
  refine ⟨hf.row x hx, fun a ha => ?_⟩
  have e : (f.turn.sts[x]).getD a 0 = f.at' x a := by
    have hx' : x < f.sts.length := hx
    simp only [Fa.at', List.getD, List.getElem?_eq_getElem hx', Option.getD_some]
    rfl
  rw [e, Nat.or_comm]
  exact ⟨hf.lo x a hx ha, hf.hi x a hx ha, hf.own x a hx ha⟩

/-- What sends nothing and accepts all of s. -/
def worldF (acts : List ByteArray) (s : Nat) : Fa := ⟨acts, (s : Int), 0, [(List.range acts.length).map fun a => if s.testBit a = true then 0 else -1]⟩

theorem world_valid {acts : List ByteArray} {s : Nat} (ha : actsB acts = true) (hs : s < 2 ^ acts.length) : (worldF acts s).validB = true := by
  refine valid_of (f := worldF acts s) (n := acts.length) (i := s) (o := 0) ha rfl rfl rfl hs (Nat.two_pow_pos _) (Nat.and_zero _) (by simp [worldF]) (by simp [worldF]) ?_
  intro r hr
  simp only [worldF, List.mem_cons, List.not_mem_nil, or_false] at hr
  subst hr
  refine ⟨by simp, fun a ha => ?_⟩
  have e : ((List.range acts.length).map fun a => if s.testBit a = true then (0 : Int) else -1).getD a 0 = if s.testBit a = true then 0 else -1 := by
    rw [List.getD, List.getElem?_map, List.getElem?_range ha]; rfl
  rw [e, Nat.or_zero]
  simp only [worldF, List.length_cons, List.length_nil]
  split
  · rename_i h; exact ⟨by omega, by omega, fun _ => h⟩
  · exact ⟨by omega, by omega, fun h => by omega⟩

theorem fits_of {f g : Fa} (hf : f.validB = true) (hg : g.validB = true) (ha : f.acts = g.acts) (ho : f.oN &&& g.oN = 0) (hw : ∀ y ∈ wayL f g f.acts.length, brokenB f g f.acts.length y.1.1 y.1.2 = false) : pairedE f g = 0 ∧ fitsB f g = true := by
  have v1 := Fa.val_of hf
  have v2 := Fa.val_of hg
  have hp := pow8 v1.n8
  have hp2 := pow8 v2.n8
  have o1 := v1.olt
  have o2 := v2.olt
  have hfine : fineE f g = 0 := by simp [fineE, hf, hg, ha]
  have hand : andI f.out g.out = 0 := by unfold andI; rw [v1.out, v2.out, bit2_and _ _ (by omega) (by omega), ho]; rfl
  have hpr : pairedE f g = 0 := by simp [pairedE, hfine, hand]
  refine ⟨hpr, ?_⟩
  have : ¬ wayI f g f.acts.length < (wayL f g f.acts.length).length := way_none fun i h => hw _ (List.getElem_mem h)
  simp [fitsB, wayB, hpr, this]

/-- A world that accepts all that a face sends fits it. -/
theorem fits_world {f : Fa} {n : Nat} (hf : f.validB = true) (hn : f.acts.length = n) {s : Nat} (hs : s < 2 ^ n) (hso : s = f.oN) : pairedE f (worldF f.acts s) = 0 ∧ fitsB f (worldF f.acts s) = true := by
  have v := Fa.val_of hf
  have hwv := world_valid (s := s) v.acts (by rw [hn]; exact hs)
  have wo : (worldF f.acts s).oN = 0 := rfl
  have wi : (worldF f.acts s).iN = s := by simp [Fa.iN, worldF]
  refine fits_of hf hwv rfl (by rw [wo, Nat.and_zero]) fun y hy => ?_
  have vw : (worldF f.acts s).Val f.acts.length := Fa.val_of hwv
  have hin := foundL_in v vw y hy
  have hy0 : y.1.2 = 0 := by have := hin.2; simp [worldF] at this; exact this
  unfold brokenB sendB
  rw [wo, wi, Nat.zero_and]
  have h2 : ∀ x y' : Nat, ((bits f.acts.length 0).any fun a => decide ((worldF f.acts s).at' x a ≥ 0) && decide (f.at' y' a < 0)) = false := fun x y' => by
    simp [bits]
  rw [h2, Bool.or_false, List.any_eq_false]
  intro a ha
  simp only [bits, List.mem_filter, List.mem_range] at ha
  have hat : (worldF f.acts s).at' y.1.2 a = 0 := by
    rw [hy0]
    have hb : s.testBit a = true := by have := ha.2; rw [Nat.testBit_and] at this; simp at this; exact this.2
    simp only [Fa.at', worldF, List.getD, List.getElem?_cons_zero, Option.getD_some, List.getElem?_map, List.getElem?_range ha.1, Option.map_some, hb, if_true]
  rw [hat]
  simp

/-- A face fits the face that sends what it accepts, and accepts what it sends. -/
theorem fits_turn {f : Fa} {n : Nat} (hf : f.Val n) (hv : f.validB = true) : pairedE f f.turn = 0 ∧ fitsB f f.turn = true := by
  have hn := hf.len
  have hto : f.turn.oN = f.iN := rfl
  have hti : f.turn.iN = f.oN := rfl
  have hat : ∀ x a, f.turn.at' x a = f.at' x a := fun _ _ => rfl
  have hown : ∀ a, f.turn.ownB a = f.ownB a := fun a => by
    have h1 := hf.ilt; have h2 := hf.olt; have hp := pow8 hf.n8
    unfold Fa.ownB
    show hasI (orI f.out f.inn) a = hasI (orI f.inn f.out) a
    rw [hf.inn, hf.out, orI_nat (by omega) (by omega), orI_nat (by omega) (by omega), Nat.or_comm]
  refine fits_of hv (turn_valid hf) rfl (by rw [hto, Nat.and_comm]; exact hf.dis) fun y hy => ?_
  have hdiag : y.1.1 = y.1.2 := by
    refine bfs_all (p := fun p : Pr => p.1 = p.2) (fun i p hp z hz => ?_) _ _ _ ?_ y hy
    · simp only [sucs, List.mem_filterMap] at hz
      obtain ⟨a, _, h2⟩ := hz
      simp only [suc1, Option.bind_eq_some_iff] at h2
      obtain ⟨q, h3, h4⟩ := h2
      split at h4
      · simp only [Option.some.injEq] at h4
        subst h4
        unfold stepN at h3
        split at h3
        · simp only [Option.some.injEq] at h3
          subst h3
          simp only [stepI, hown, hat, hp]
        · cases h3
      · cases h4
    · intro z hz; simp at hz; subst hz; rfl
  have h0 : ∀ s x, ((bits f.acts.length s).any fun a => decide (f.at' x a ≥ 0) && decide (f.at' x a < 0)) = false := fun s x => by
    rw [List.any_eq_false]; intro a _; simp
  unfold brokenB sendB
  simp only [hat, hdiag, h0, Bool.or_self]

/-- The actions of a run are of the set. -/
theorem runN_set {f g : Fa} {n s : Nat} : ∀ {l : List Int} {p q : Pr}, runN f g n s p l = some q → ∀ a ∈ l, 0 ≤ a ∧ a < n ∧ s.testBit a.toNat = true
  | [], _, _, _, a, ha => by simp at ha
  | b :: l, p, q, h, a, ha => by
    simp only [runN, List.foldlM_cons, Option.bind_eq_bind, Option.bind_eq_some_iff] at h
    obtain ⟨r, h1, h2⟩ := h
    rcases List.mem_cons.1 ha with rfl | ha
    · unfold step1 at h1
      split at h1
      · assumption
      · cases h1
    · exact runN_set h2 a ha
end Go.Proofs.Ytebbiciepbbhkaa
/- Chapter 12, part Ub: three faces: what is lost, whichever two are put together first. -/
namespace Go.Proofs.Ytebbiciepbbhkaa
open Go Go.NS

/-- An action is one of a face's. -/
def ow (f : Fa) (a : Nat) : Prop := (f.iN ||| f.oN).testBit a = true
theorem ow_iff {f : Fa} {a : Nat} : ow f a ↔ f.iN.testBit a = true ∨ f.oN.testBit a = true := by unfold ow; rw [Nat.testBit_or]; simp

/-- Where a face goes with an action. -/
def mv (f : Fa) (x a : Nat) : Option Nat := if (f.iN ||| f.oN).testBit a then (if f.at' x a ≥ 0 then some (f.at' x a).toNat else none) else some x

theorem mv_own {f : Fa} {x a : Nat} (h : ow f a) : mv f x a = if f.at' x a ≥ 0 then some (f.at' x a).toNat else none := by unfold mv; unfold ow at h; rw [if_pos h]
theorem mv_not {f : Fa} {x a : Nat} (h : ¬ ow f a) : mv f x a = some x := by unfold mv; unfold ow at h; rw [if_neg h]
theorem mv_some {f : Fa} {x a : Nat} (h : ow f a) (h2 : f.at' x a ≥ 0) : mv f x a = some (f.at' x a).toNat := by rw [mv_own h, if_pos h2]
theorem mv_none {f : Fa} {x a : Nat} : mv f x a = none ↔ ow f a ∧ f.at' x a < 0 := by
  by_cases h : ow f a
  · rw [mv_own h]
    split
    · rename_i h2; simp; intro _; omega
    · rename_i h2; simp [h]; omega
  · rw [mv_not h]; simp [h]
theorem mv_ge {f : Fa} {x x' a : Nat} (h : ow f a) (h2 : mv f x a = some x') : f.at' x a ≥ 0 := by
  rw [mv_own h] at h2
  split at h2
  · assumption
  · cases h2

theorem stepN_iff {f g : Fa} {n : Nat} (hf : f.Val n) (hg : g.Val n) {a : Nat} (ha : a < n) {x y x' y' : Nat} : stepN f g (x, y) a = some (x', y') ↔ (ow f a ∨ ow g a) ∧ mv f x a = some x' ∧ mv g y a = some y' := by
  have hp := pow8 hf.n8
  have h8 := hf.n8
  obtain ⟨e1, e2, e3, e4⟩ := own_or hf hg
  have eo : hasI (orI (orI f.inn f.out) (orI g.inn g.out)) a = (ownS f g).testBit a := by
    rw [e1, e2]; unfold orI; rw [e3, hasI_nat _ _ (by omega) (by omega)]
  have es : (ownS f g).testBit a = ((f.iN ||| f.oN).testBit a || (g.iN ||| g.oN).testBit a) := by unfold ownS; rw [Nat.testBit_or]
  unfold stepN stepB stepI
  rw [eo, es, Fa.ownB_val hf ha, Fa.ownB_val hg ha]
  unfold mv ow
  cases h1 : (f.iN ||| f.oN).testBit a <;> cases h2 : (g.iN ||| g.oN).testBit a <;> by_cases c1 : f.at' x a ≥ 0 <;> by_cases c2 : g.at' y a ≥ 0 <;> simp [c1, c2]

/-- f sends what g refuses. -/
def Snd (f g : Fa) (n x y : Nat) : Prop := ∃ a, a < n ∧ f.oN.testBit a = true ∧ g.iN.testBit a = true ∧ f.at' x a ≥ 0 ∧ g.at' y a < 0
theorem broken_iff {f g : Fa} {n x y : Nat} : brokenB f g n x y = true ↔ Snd f g n x y ∨ Snd g f n y x := by
  have : ∀ f g : Fa, ∀ x y : Nat, sendB f g n x y = true ↔ Snd f g n x y := fun f g x y => by
    simp only [sendB, Snd, List.any_eq_true, bits, List.mem_filter, List.mem_range, Bool.and_eq_true, decide_eq_true_eq, and_assoc, Nat.testBit_and]
  unfold brokenB
  rw [Bool.or_eq_true, this, this]

def bad3 (f g h : Fa) (n x y z : Nat) : Prop := brokenB f g n x y = true ∨ brokenB g h n y z = true ∨ brokenB f h n x z = true

/-- Three faces: a broken pair is reached by what they send. -/
inductive lost3 (f g h : Fa) (n : Nat) : Nat → Nat → Nat → Prop
  | bad {x y z : Nat} (hb : bad3 f g h n x y z) : lost3 f g h n x y z
  | step {x y z x' y' z' a : Nat} (ha : a < n) (ho : f.oN.testBit a = true ∨ g.oN.testBit a = true ∨ h.oN.testBit a = true) (h1 : mv f x a = some x') (h2 : mv g y a = some y') (h3 : mv h z a = some z') (hl : lost3 f g h n x' y' z') : lost3 f g h n x y z

theorem lostP_ind {f g : Fa} {n : Nat} {m : Pr → Prop} (hb : ∀ p, brokenB f g n p.1 p.2 = true → m p) (hs : ∀ p q a, a ∈ bits n (f.oN ||| g.oN) → stepN f g p a = some q → lostP f g n q → m q → m p) : ∀ p, lostP f g n p → m p := by
  rintro p ⟨k, hk⟩
  induction k generalizing p with
  | zero => exact hb p hk
  | succ k ih =>
    simp only [lostN, Bool.or_eq_true, List.any_eq_true] at hk
    rcases hk with hk | ⟨a, ha, hk⟩
    · exact ih p hk
    · cases hst : stepN f g p a with
      | none => rw [hst] at hk; cases hk
      | some q => rw [hst] at hk; exact hs p q a ha hst ⟨k, hk⟩ (ih q hk)

theorem lostP_bad {f g : Fa} {n x y : Nat} (h : Snd f g n x y ∨ Snd g f n y x) : lostP f g n (x, y) := lostP_broken (p := (x, y)) (broken_iff.2 h)
theorem mem_bits {n s a : Nat} : a ∈ bits n s ↔ a < n ∧ s.testBit a = true := by simp [bits]
theorem out_mem {f g : Fa} {n a : Nat} (ha : a < n) (h : f.oN.testBit a = true ∨ g.oN.testBit a = true) : a ∈ bits n (f.oN ||| g.oN) := by
  rw [mem_bits, Nat.testBit_or]; simpa using ⟨ha, h⟩

theorem dis_bit {s t a : Nat} (h : s &&& t = 0) (h1 : s.testBit a = true) : t.testBit a = false := by
  have : (s &&& t).testBit a = false := by rw [h]; simp
  rw [Nat.testBit_and, h1] at this; simpa using this

/-- What is put together out of two faces, as it moves. -/
structure Tog (f g r : Fa) (n : Nat) (at2 : Nat → Pr → Prop) : Prop where
  ow : ∀ a, ow r a ↔ (ow f a ∨ ow g a)
  oN : ∀ a, r.oN.testBit a = true ↔ (f.oN.testBit a = true ∨ g.oN.testBit a = true)
  iN : ∀ a, r.iN.testBit a = true ↔ ((f.iN.testBit a = true ∨ g.iN.testBit a = true) ∧ ¬ r.oN.testBit a = true)
  down : ∀ k x y a k', a < n → at2 k (x, y) → ¬ lostP f g n (x, y) → mv r k a = some k' → ∃ x' y', mv f x a = some x' ∧ mv g y a = some y' ∧ at2 k' (x', y') ∧ ¬ lostP f g n (x', y')
  up : ∀ k x y a x' y', a < n → at2 k (x, y) → mv f x a = some x' → mv g y a = some y' → ¬ lostP f g n (x', y') → ∃ k', mv r k a = some k' ∧ at2 k' (x', y')

section
variable {f g h r : Fa} {n : Nat} {at2 : Nat → Pr → Prop}

/-- Lost for three is lost for two and one. -/
theorem lost3_two (hf : f.Val n) (hg : g.Val n) (hh : h.Val n) (hr : r.Val n) (T : Tog f g r n at2) (d1 : f.oN &&& g.oN = 0) (d2 : f.oN &&& h.oN = 0) (d3 : g.oN &&& h.oN = 0) :
    ∀ x y z, lost3 f g h n x y z → ∀ k, at2 k (x, y) → ¬ lostP f g n (x, y) → lostP r h n (k, z) := by
  -- h sends what both together refuse
  have R1 : ∀ k x y z a, a < n → at2 k (x, y) → ¬ lostP f g n (x, y) → mv r k a = none → h.oN.testBit a = true → h.at' z a ≥ 0 → lostP r h n (k, z) := fun k x y z a ha h1 h2 h3 h4 h5 => by
    obtain ⟨o1, o2⟩ := mv_none.1 h3
    refine lostP_bad (.inr ⟨a, ha, h4, ?_, h5, o2⟩)
    have n1 : f.oN.testBit a = false := dis_bit (by rw [Nat.and_comm]; exact d2) h4
    have n2 : g.oN.testBit a = false := dis_bit (by rw [Nat.and_comm]; exact d3) h4
    rw [T.iN]
    refine ⟨?_, by rw [T.oN]; simp [n1, n2]⟩
    rcases (T.ow a).1 o1 with o | o
    · rcases ow_iff.1 o with o | o
      · exact .inl o
      · rw [n1] at o; cases o
    · rcases ow_iff.1 o with o | o
      · exact .inr o
      · rw [n2] at o; cases o
  -- both together send what h refuses
  have R2 : ∀ k x y z a x' y', a < n → at2 k (x, y) → ¬ lostP f g n (x, y) → mv f x a = some x' → mv g y a = some y' → (f.oN.testBit a = true ∨ g.oN.testBit a = true) → h.iN.testBit a = true → h.at' z a < 0 → lostP r h n (k, z) := fun k x y z a x' y' ha h1 h2 h3 h4 h5 h6 h7 => by
    have ho : ow f a ∨ ow g a := h5.imp (fun h => ow_iff.2 (.inr h)) fun h => ow_iff.2 (.inr h)
    have hnl : ¬ lostP f g n (x', y') := fun hl => h2 (lostP_step (out_mem ha h5) ((stepN_iff hf hg ha).2 ⟨ho, h3, h4⟩) hl)
    obtain ⟨k', hk, _⟩ := T.up k x y a x' y' ha h1 h3 h4 hnl
    exact lostP_bad (.inl ⟨a, ha, (T.oN a).2 h5, h6, mv_ge ((T.ow a).2 ho) hk, h7⟩)
  intro x y z hl
  induction hl with
  | @bad x y z hb =>
    intro k hk hnl
    have hnone : ∀ a, a < n → (mv f x a = none ∨ mv g y a = none) → mv r k a = none := fun a ha hn => by
      cases hm : mv r k a with
      | none => rfl
      | some k' =>
        obtain ⟨x', y', m1, m2, _⟩ := T.down k x y a k' ha hk hnl hm
        rcases hn with hn | hn
        · rw [hn] at m1; cases m1
        · rw [hn] at m2; cases m2
    rcases hb with hb | hb | hb
    · exact absurd (lostP_broken (p := (x, y)) hb) hnl
    · rcases broken_iff.1 hb with ⟨a, ha, o1, o2, o3, o4⟩ | ⟨a, ha, o1, o2, o3, o4⟩
      · have m2 := mv_some (ow_iff.2 (.inr o1)) o3
        cases m1 : mv f x a with
        | some x' => exact R2 k x y z a x' _ ha hk hnl m1 m2 (.inr o1) o2 o4
        | none =>
          obtain ⟨p1, p2⟩ := mv_none.1 m1
          have n1 : f.oN.testBit a = false := dis_bit (by rw [Nat.and_comm]; exact d1) o1
          have : f.iN.testBit a = true := (ow_iff.1 p1).resolve_right (by rw [n1]; simp)
          exact absurd (lostP_bad (.inr ⟨a, ha, o1, this, o3, p2⟩)) hnl
      · exact R1 k x y z a ha hk hnl (hnone a ha (.inr (mv_none.2 ⟨ow_iff.2 (.inl o2), o4⟩))) o1 o3
    · rcases broken_iff.1 hb with ⟨a, ha, o1, o2, o3, o4⟩ | ⟨a, ha, o1, o2, o3, o4⟩
      · have m1 := mv_some (ow_iff.2 (.inr o1)) o3
        cases m2 : mv g y a with
        | some y' => exact R2 k x y z a _ y' ha hk hnl m1 m2 (.inl o1) o2 o4
        | none =>
          obtain ⟨p1, p2⟩ := mv_none.1 m2
          have n1 : g.oN.testBit a = false := dis_bit d1 o1
          have : g.iN.testBit a = true := (ow_iff.1 p1).resolve_right (by rw [n1]; simp)
          exact absurd (lostP_bad (.inl ⟨a, ha, o1, this, o3, p2⟩)) hnl
      · exact R1 k x y z a ha hk hnl (hnone a ha (.inl (mv_none.2 ⟨ow_iff.2 (.inl o2), o4⟩))) o1 o3
  | @step x y z x' y' z' a ha ho m1 m2 m3 _ ih =>
    intro k hk hnl
    by_cases hq : lostP f g n (x', y')
    · have hne : ow f a ∨ ow g a := Classical.byContradiction fun hno => by
        have e1 := mv_not (x := x) (fun h => hno (.inl h))
        have e2 := mv_not (x := y) (fun h => hno (.inr h))
        rw [m1] at e1; rw [m2] at e2
        cases e1; cases e2
        exact hnl hq
      have hst := (stepN_iff hf hg ha).2 ⟨hne, m1, m2⟩
      by_cases h5 : f.oN.testBit a = true ∨ g.oN.testBit a = true
      · exact absurd (lostP_step (out_mem ha h5) hst hq) hnl
      · have h6 : h.oN.testBit a = true := by
          rcases ho with h | h | h
          · exact absurd (.inl h) h5
          · exact absurd (.inr h) h5
          · exact h
        refine R1 k x y z a ha hk hnl ?_ h6 (mv_ge (ow_iff.2 (.inr h6)) m3)
        cases hm : mv r k a with
        | none => rfl
        | some k' =>
          obtain ⟨x2, y2, e1, e2, _, e4⟩ := T.down k x y a k' ha hk hnl hm
          rw [m1] at e1; rw [m2] at e2; cases e1; cases e2
          exact absurd hq e4
    · obtain ⟨k', e1, e2⟩ := T.up k x y a x' y' ha hk m1 m2 hq
      have := ih k' e2 hq
      refine lostP_step (out_mem ha ?_) ((stepN_iff hr hh ha).2 ⟨?_, e1, m3⟩) this
      · rw [T.oN]
        rcases ho with h | h | h
        · exact .inl (.inl h)
        · exact .inl (.inr h)
        · exact .inr h
      · rcases ho with h | h | h
        · exact .inl ((T.ow a).2 (.inl (ow_iff.2 (.inr h))))
        · exact .inl ((T.ow a).2 (.inr (ow_iff.2 (.inr h))))
        · exact .inr (ow_iff.2 (.inr h))

/-- Lost for two is lost for three. -/
theorem lost_pair3 (hf : f.Val n) (hg : g.Val n) (d2 : f.oN &&& h.oN = 0) (d3 : g.oN &&& h.oN = 0) : ∀ p, lostP f g n p → ∀ z, lost3 f g h n p.1 p.2 z := by
  refine lostP_ind (fun p hb z => .bad (.inl hb)) ?_
  rintro ⟨x, y⟩ ⟨x', y'⟩ a ha hst _ ih z
  obtain ⟨ha, ho⟩ := mem_bits.1 ha
  rw [Nat.testBit_or, Bool.or_eq_true] at ho
  obtain ⟨_, m1, m2⟩ := (stepN_iff hf hg ha).1 hst
  cases m3 : mv h z a with
  | some z' => exact .step ha (ho.imp id .inl) m1 m2 m3 (ih z')
  | none =>
    obtain ⟨p1, p2⟩ := mv_none.1 m3
    rcases ho with o | o
    · have : h.iN.testBit a = true := (ow_iff.1 p1).resolve_right (by rw [dis_bit d2 o]; simp)
      exact .bad (.inr (.inr (broken_iff.2 (.inl ⟨a, ha, o, this, mv_ge (ow_iff.2 (.inr o)) m1, p2⟩))))
    · have : h.iN.testBit a = true := (ow_iff.1 p1).resolve_right (by rw [dis_bit d3 o]; simp)
      exact .bad (.inr (.inl (broken_iff.2 (.inl ⟨a, ha, o, this, mv_ge (ow_iff.2 (.inr o)) m2, p2⟩))))

/-- Lost for two and one is lost for three. -/
theorem lost_two3 (hf : f.Val n) (hg : g.Val n) (hh : h.Val n) (hr : r.Val n) (T : Tog f g r n at2) (d2 : f.oN &&& h.oN = 0) (d3 : g.oN &&& h.oN = 0) :
    ∀ q, lostP r h n q → ∀ x y, at2 q.1 (x, y) → lost3 f g h n x y q.2 := by
  refine lostP_ind (fun q hb x y hk => ?_) ?_
  · by_cases hl : lostP f g n (x, y)
    · exact lost_pair3 hf hg d2 d3 (x, y) hl q.2
    rcases broken_iff.1 hb with ⟨a, ha, o1, o2, o3, o4⟩ | ⟨a, ha, o1, o2, o3, o4⟩
    · have how : ow r a := ow_iff.2 (.inr o1)
      obtain ⟨x', y', m1, m2, _⟩ := T.down q.1 x y a _ ha hk hl (mv_some how o3)
      rcases (T.oN a).1 o1 with o | o
      · exact .bad (.inr (.inr (broken_iff.2 (.inl ⟨a, ha, o, o2, mv_ge (ow_iff.2 (.inr o)) m1, o4⟩))))
      · exact .bad (.inr (.inl (broken_iff.2 (.inl ⟨a, ha, o, o2, mv_ge (ow_iff.2 (.inr o)) m2, o4⟩))))
    · have how : ow r a := ow_iff.2 (.inl o2)
      have hno : mv r q.1 a = none := mv_none.2 ⟨how, o4⟩
      have n1 : f.oN.testBit a = false := dis_bit (by rw [Nat.and_comm]; exact d2) o1
      have n2 : g.oN.testBit a = false := dis_bit (by rw [Nat.and_comm]; exact d3) o1
      cases m1 : mv f x a with
      | none =>
        obtain ⟨p1, p2⟩ := mv_none.1 m1
        have : f.iN.testBit a = true := (ow_iff.1 p1).resolve_right (by rw [n1]; simp)
        exact .bad (.inr (.inr (broken_iff.2 (.inr ⟨a, ha, o1, this, o3, p2⟩))))
      | some x' =>
      cases m2 : mv g y a with
      | none =>
        obtain ⟨p1, p2⟩ := mv_none.1 m2
        have : g.iN.testBit a = true := (ow_iff.1 p1).resolve_right (by rw [n2]; simp)
        exact .bad (.inr (.inl (broken_iff.2 (.inr ⟨a, ha, o1, this, o3, p2⟩))))
      | some y' =>
        have hlq : lostP f g n (x', y') := Classical.byContradiction fun hn => by
          obtain ⟨k', e, _⟩ := T.up q.1 x y a x' y' ha hk m1 m2 hn
          rw [hno] at e; cases e
        exact .step ha (.inr (.inr o1)) m1 m2 (mv_some (ow_iff.2 (.inr o1)) o3) (lost_pair3 hf hg d2 d3 (x', y') hlq _)
  · rintro ⟨k, z⟩ ⟨k', z'⟩ a ha hst _ ih x y hk
    by_cases hl : lostP f g n (x, y)
    · exact lost_pair3 hf hg d2 d3 (x, y) hl z
    obtain ⟨ha, ho⟩ := mem_bits.1 ha
    rw [Nat.testBit_or, Bool.or_eq_true] at ho
    obtain ⟨_, m1, m2⟩ := (stepN_iff hr hh ha).1 hst
    obtain ⟨x', y', e1, e2, e3, _⟩ := T.down k x y a k' ha hk hl m1
    refine .step ha ?_ e1 e2 m2 (ih x' y' e3)
    rcases ho with o | o
    · rcases (T.oN a).1 o with o | o
      · exact .inl o
      · exact .inr (.inl o)
    · exact .inr (.inr o)
end
end Go.Proofs.Ytebbiciepbbhkaa
/- Chapter 12, part Uc: how both together move. -/
namespace Go.Proofs.Ytebbiciepbbhkaa
open Go Go.NS

noncomputable def togN (f g : Fa) (n : Nat) : Fa := togF f g n (keepD f g n)
noncomputable def prs (f g : Fa) (n : Nat) : List Pr := (togL f g n (keepD f g n)).map (·.1)
def atP (f g : Fa) (n : Nat) (k : Nat) (p : Pr) : Prop := (prs f g n)[k]? = some p

theorem togN_iN (f g : Fa) (n : Nat) : (togN f g n).iN = nAndNot (f.iN ||| g.iN) (f.oN ||| g.oN) := by simp [togN, togF, Fa.iN]
theorem togN_oN (f g : Fa) (n : Nat) : (togN f g n).oN = f.oN ||| g.oN := by simp [togN, togF, Fa.oN]
theorem togN_own (f g : Fa) (n : Nat) : (togN f g n).iN ||| (togN f g n).oN = ownS f g := by rw [togN_iN, togN_oN, tog_bits]

theorem togN_at {f g : Fa} {n k a : Nat} {p : Pr} (hk : atP f g n k p) (ha : a < n) : (togN f g n).at' k a = match stepN f g p a with
    | some q => if keepD f g n q then (((prs f g n).idxOf q : Nat) : Int) else -1
    | none => -1 := by
  unfold atP prs at hk
  rw [List.getElem?_map] at hk
  cases hx : (togL f g n (keepD f g n))[k]? with
  | none => rw [hx] at hk; cases hk
  | some z =>
    rw [hx] at hk
    simp only [Option.map_some, Option.some.injEq] at hk
    subst hk
    unfold Fa.at' togN togF
    simp only [List.getD, List.getElem?_map, hx, Option.map_some, Option.getD_some]
    have := rowT_at (f := f) (g := g) (keep := keepD f g n) (L := togL f g n (keepD f g n)) (p := z.1) ha
    rw [List.getD] at this
    exact this

theorem prs_closed {f g : Fa} {n : Nat} (hf : f.Val n) (hg : g.Val n) {k a : Nat} {p q : Pr} (hk : atP f g n k p) (ha : a < n) (hs : stepN f g p a = some q) (hq : keepD f g n q = true) : q ∈ prs f g n := by
  unfold atP prs at hk
  rw [List.getElem?_eq_some_iff] at hk
  obtain ⟨hl, e⟩ := hk
  rw [List.getElem_map] at e
  have hl' : k < (togL f g n (keepD f g n)).length := by simpa using hl
  have hown : (ownS f g).testBit a = true := by
    cases hb : (ownS f g).testBit a with
    | true => rfl
    | false => rw [stepN_own hf hg ha hb] at hs; cases hs
  exact foundL_closed hf hg hl' (mem_bits.2 ⟨ha, hown⟩) (by rw [← e] at hs; exact hs) hq

theorem atP_idx {f g : Fa} {n : Nat} {q : Pr} (h : q ∈ prs f g n) : atP f g n ((prs f g n).idxOf q) q := by
  unfold atP
  have hi := List.idxOf_lt_length_iff.2 h
  rw [List.getElem?_eq_getElem hi, List.getElem_idxOf hi]

theorem keepD_iff {f g : Fa} {n : Nat} {q : Pr} : keepD f g n q = true ↔ ¬ lostP f g n q := by
  unfold keepD
  rw [← lostD_iff]
  cases lostD f g n q <;> simp

theorem tog_Tog {f g : Fa} {n : Nat} (hf : f.Val n) (hg : g.Val n) : Tog f g (togN f g n) n (atP f g n) := by
  have how : ∀ a, ow (togN f g n) a ↔ (ow f a ∨ ow g a) := fun a => by
    unfold ow; rw [togN_own]; unfold ownS; rw [Nat.testBit_or, Bool.or_eq_true]
  refine ⟨how, fun a => by rw [togN_oN, Nat.testBit_or, Bool.or_eq_true], fun a => ?_, ?_, ?_⟩
  · rw [togN_iN, togN_oN, nAndNot_bit, Nat.testBit_or f.iN, Bool.and_eq_true, Bool.or_eq_true]
    simp
  · intro k x y a k' ha hk hnl hm
    by_cases ho : ow (togN f g n) a
    · have hge := mv_ge ho hm
      rw [mv_some ho hge] at hm
      have hat := togN_at hk ha
      rw [hat] at hm hge
      cases hst : stepN f g (x, y) a with
      | none => rw [hst] at hge; simp at hge
      | some q =>
        obtain ⟨x', y'⟩ := q
        rw [hst] at hm hge
        simp only at hm hge
        by_cases hq : keepD f g n (x', y') = true
        · rw [if_pos hq] at hm
          simp only [Int.toNat_natCast, Option.some.injEq] at hm
          obtain ⟨_, m1, m2⟩ := (stepN_iff hf hg ha).1 hst
          refine ⟨x', y', m1, m2, ?_, keepD_iff.1 hq⟩
          rw [← hm]
          exact atP_idx (prs_closed hf hg hk ha hst hq)
        · rw [if_neg hq] at hge; omega
    · rw [mv_not ho] at hm
      cases hm
      have h1 : ¬ ow f a := fun h => ho ((how a).2 (.inl h))
      have h2 : ¬ ow g a := fun h => ho ((how a).2 (.inr h))
      exact ⟨x, y, mv_not h1, mv_not h2, hk, hnl⟩
  · intro k x y a x' y' ha hk m1 m2 hnl
    by_cases ho : ow (togN f g n) a
    · have hst := (stepN_iff hf hg ha).2 ⟨(how a).1 ho, m1, m2⟩
      have hq := keepD_iff.2 hnl
      have hat := togN_at hk ha
      rw [hst] at hat
      simp only [hq, if_true] at hat
      refine ⟨(prs f g n).idxOf (x', y'), ?_, atP_idx (prs_closed hf hg hk ha hst hq)⟩
      rw [mv_some ho (by rw [hat]; omega), hat, Int.toNat_natCast]
    · have h1 : ¬ ow f a := fun h => ho ((how a).2 (.inl h))
      have h2 : ¬ ow g a := fun h => ho ((how a).2 (.inr h))
      rw [mv_not h1] at m1
      rw [mv_not h2] at m2
      cases m1; cases m2
      exact ⟨k, mv_not ho, hk⟩
end Go.Proofs.Ytebbiciepbbhkaa
/- Chapter 12, part Ud: three faces: the searches are one. -/
namespace Go.Proofs.Ytebbiciepbbhkaa
open Go Go.NS

abbrev Tri := Nat × Nat × Nat
abbrev ItT := Tri × (Int × Int)

/-- A step to a pair that is kept. -/
def kst (f g : Fa) (keep : Pr → Bool) (p : Pr) (a : Nat) : Option Pr := (stepN f g p a).bind fun w => if keep w then some w else none
theorem suc1_kst (f g : Fa) (keep : Pr → Bool) (i : Nat) (p : Pr) (a : Nat) : suc1 f g keep i p a = (kst f g keep p a).map fun w => (w, ((i : Int), (a : Int))) := by
  unfold suc1 kst
  cases stepN f g p a with
  | none => rfl
  | some q => simp only [Option.bind_some]; split <;> rfl
theorem rowT_kst (f g : Fa) (n : Nat) (keep : Pr → Bool) (L : List It) (p : Pr) : rowT f g n keep L p = (List.range n).map fun a => match kst f g keep p a with
    | some q => (((L.map (·.1)).idxOf q : Nat) : Int)
    | none => -1 := by
  unfold rowT kst
  refine List.map_congr_left fun a _ => ?_
  cases stepN f g p a with
  | none => rfl
  | some q => simp only [Option.bind_some]; by_cases h : keep q = true <;> simp [h]

def own3 (f g h : Fa) : Nat := (f.iN ||| f.oN) ||| (g.iN ||| g.oN) ||| (h.iN ||| h.oN)
theorem own3_iff {f g h : Fa} {a : Nat} : (own3 f g h).testBit a = true ↔ ow f a ∨ ow g a ∨ ow h a := by
  unfold own3 ow; rw [Nat.testBit_or, Nat.testBit_or]; simp [or_assoc]
open Classical in
noncomputable def kst3 (f g h : Fa) (n : Nat) (t : Tri) (a : Nat) : Option Tri :=
  if (own3 f g h).testBit a then (mv f t.1 a).bind fun x => (mv g t.2.1 a).bind fun y => (mv h t.2.2 a).bind fun z => if lost3 f g h n x y z then none else some (x, y, z) else none

theorem kst3_some {f g h : Fa} {n : Nat} {t : Tri} {a x y z : Nat} : kst3 f g h n t a = some (x, y, z) ↔ (ow f a ∨ ow g a ∨ ow h a) ∧ mv f t.1 a = some x ∧ mv g t.2.1 a = some y ∧ mv h t.2.2 a = some z ∧ ¬ lost3 f g h n x y z := by
  unfold kst3
  rw [← own3_iff]
  cases ho : (own3 f g h).testBit a with
  | false => simp
  | true =>
    cases h1 : mv f t.1 a with
    | none => simp
    | some x' =>
    cases h2 : mv g t.2.1 a with
    | none => simp
    | some y' =>
    cases h3 : mv h t.2.2 a with
    | none => simp
    | some z' =>
      simp only [Option.bind_some, if_true, true_and, Option.some.injEq]
      by_cases hl : lost3 f g h n x' y' z'
      · rw [if_pos hl]
        constructor
        · intro e; cases e
        · rintro ⟨rfl, rfl, rfl, e⟩; exact absurd hl e
      · rw [if_neg hl]
        constructor
        · intro e; cases e; exact ⟨rfl, rfl, rfl, hl⟩
        · rintro ⟨rfl, rfl, rfl, e⟩; rfl

theorem kst_some {f g : Fa} {n : Nat} (hf : f.Val n) (hg : g.Val n) {p : Pr} {a x y : Nat} (ha : a < n) : kst f g (keepD f g n) p a = some (x, y) ↔ (ow f a ∨ ow g a) ∧ mv f p.1 a = some x ∧ mv g p.2 a = some y ∧ ¬ lostP f g n (x, y) := by
  obtain ⟨u, v⟩ := p
  unfold kst
  constructor
  · intro h
    simp only [Option.bind_eq_some_iff] at h
    obtain ⟨⟨x', y'⟩, h1, h2⟩ := h
    split at h2
    · rename_i hk
      cases h2
      obtain ⟨e1, e2, e3⟩ := (stepN_iff hf hg ha).1 h1
      exact ⟨e1, e2, e3, keepD_iff.1 hk⟩
    · cases h2
  · rintro ⟨e1, e2, e3, e4⟩
    rw [(stepN_iff hf hg ha).2 ⟨e1, e2, e3⟩, Option.bind_some, if_pos (keepD_iff.2 e4)]

def phi (f g : Fa) (n : Nat) (L : List Pr) (q : Pr) : Tri := ((L.getD q.1 (0, 0)).1, (L.getD q.1 (0, 0)).2, q.2)
theorem phi_at {f g : Fa} {n k z x y : Nat} (h : atP f g n k (x, y)) : phi f g n (prs f g n) (k, z) = (x, y, z) := by
  unfold atP at h
  unfold phi
  simp only [List.getD, h, Option.getD_some]

section
variable {f g h : Fa} {n : Nat}

/-- A step of both together and a third one is a step of three. -/
theorem kst_phi (hf : f.Val n) (hg : g.Val n) (hh : h.Val n) (hr : (togN f g n).Val n) (d1 : f.oN &&& g.oN = 0) (d2 : f.oN &&& h.oN = 0) (d3 : g.oN &&& h.oN = 0) (hall : ∀ p ∈ prs f g n, ¬ lostP f g n p)
    {k z a : Nat} (ha : a < n) (hk : k < (prs f g n).length) : kst3 f g h n (phi f g n (prs f g n) (k, z)) a = (kst (togN f g n) h (keepD (togN f g n) h n) (k, z) a).map (phi f g n (prs f g n)) := by
  have T := tog_Tog hf hg
  obtain ⟨⟨x, y⟩, hxy⟩ : ∃ p : Pr, p = (prs f g n)[k] := ⟨_, rfl⟩
  have hat : atP f g n k (x, y) := by unfold atP; rw [List.getElem?_eq_getElem hk, hxy]
  have hnl : ¬ lostP f g n (x, y) := hall _ (hxy ▸ List.getElem_mem hk)
  rw [phi_at hat]
  cases h1 : kst (togN f g n) h (keepD (togN f g n) h n) (k, z) a with
  | some q =>
    obtain ⟨k', z'⟩ := q
    obtain ⟨e1, e2, e3, e4⟩ := (kst_some hr hh ha).1 h1
    obtain ⟨x', y', m1, m2, m3, m4⟩ := T.down k x y a k' ha hat hnl e2
    rw [Option.map_some, phi_at m3]
    refine kst3_some.2 ⟨?_, m1, m2, e3, fun hl => e4 (lost3_two hf hg hh hr T d1 d2 d3 x' y' z' hl k' m3 m4)⟩
    rcases e1 with o | o
    · rcases (T.ow a).1 o with o | o
      · exact .inl o
      · exact .inr (.inl o)
    · exact .inr (.inr o)
  | none =>
    rw [Option.map_none]
    cases h3 : kst3 f g h n (x, y, z) a with
    | none => rfl
    | some t =>
      obtain ⟨x', y', z'⟩ := t
      obtain ⟨o, m1, m2, m3, m4⟩ := kst3_some.1 h3
      have hn2 : ¬ lostP f g n (x', y') := fun hl => m4 (lost_pair3 hf hg d2 d3 (x', y') hl z')
      obtain ⟨k', e1, e2⟩ := T.up k x y a x' y' ha hat m1 m2 hn2
      have : kst (togN f g n) h (keepD (togN f g n) h n) (k, z) a = some (k', z') := (kst_some hr hh ha).2 ⟨?_, e1, m3, fun hl => m4 (lost_two3 hf hg hh hr T d2 d3 (k', z') hl x' y' e2)⟩
      · rw [h1] at this; cases this
      · rcases o with o | o | o
        · exact .inl ((T.ow a).2 (.inl o))
        · exact .inl ((T.ow a).2 (.inr o))
        · exact .inr o
end
end Go.Proofs.Ytebbiciepbbhkaa
