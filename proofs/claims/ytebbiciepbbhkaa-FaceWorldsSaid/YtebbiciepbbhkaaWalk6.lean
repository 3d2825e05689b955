/- Chapter 12, part Tq: two faces together, by the reference: the walk. -/
import Derived.Test.YtebbiciepbbhkaaWalk5
set_option linter.unusedSimpArgs false
set_option linter.unusedVariables false
namespace Go.Proofs.Ytebbiciepbbhkaa
open Go Go.NS

set_option maxRecDepth 4000 in
set_option maxHeartbeats 8000000 in
/-- Together of the reference. -/
theorem TogetherR_ok (f g : Fa) {n : Nat} (hf : f.Val n) (hg : g.Val n) (hfs : f.Small) : Fp Try.prog 22 [f.av, g.av] (.tup [(togF f g n (keepD f g n)).av, .imm 2 (qc (togL f g n (keepD f g n)))]) := by
  have h8 := hf.n8
  obtain ⟨hor, hlt⟩ := out_or hf hg
  have hp8 := pow8 hf.n8
  have hn := hf.len
  have hfew := hf.few
  have hfew2 := hg.few
  have hpos := hf.pos
  have hpos2 := hg.pos
  have hsa := hfs.a
  have a1 := hf.ilt; have a2 := hf.olt; have a3 := hg.ilt; have a4 := hg.olt
  have b1 : f.iN ||| g.iN < 2 ^ n := Nat.or_lt_two_pow a1 a3
  have hii : bit2 .or .i64 f.inn g.inn = ((f.iN ||| g.iN : Nat) : Int) := by rw [hf.inn, hg.inn]; exact bit2_or _ _ (by omega) (by omega)
  have han : bit2 .andNot .i64 ((f.iN ||| g.iN : Nat) : Int) ((f.oN ||| g.oN : Nat) : Int) = ((nAndNot (f.iN ||| g.iN) (f.oN ||| g.oN) : Nat) : Int) := bit2_andNot _ _ (by omega) (by omega)
  have hmul : f.sts.length * g.sts.length ≤ 500 * 500 := Nat.mul_le_mul hf.few hg.few
  obtain ⟨keep, hkeep⟩ : ∃ keep, keep = keepD f g n := ⟨_, rfl⟩
  rw [← hkeep]
  obtain ⟨nf, hnf⟩ : ∃ nf, f.sts.length = nf := ⟨_, rfl⟩
  obtain ⟨ng, hng⟩ : ∃ ng, g.sts.length = ng := ⟨_, rfl⟩
  obtain ⟨N, hN⟩ : ∃ N, N = nf * ng := ⟨_, rfl⟩
  obtain ⟨suc, hsuc⟩ : ∃ suc : Nat → Pr → List It, suc = fun i p => sucs f g keep i p (bits n (ownS f g)) := ⟨_, rfl⟩
  obtain ⟨L, hL⟩ : ∃ L, L = togL f g n keep := ⟨_, rfl⟩
  have hbL : bfs suc (N + 1) 0 [(((0, 0), (-1, 0)) : It)] = L := by rw [hL, hsuc, hN, ← hnf, ← hng]; rfl
  have hlen : ∀ q : List It, (q.map (·.1)).Nodup → (∀ y ∈ q, f.In g y.1) → q.length ≤ N := fun q h1 h2 => by rw [hN, ← hnf, ← hng]; exact in_length h1 h2
  have hNb : N ≤ 500 * 500 := by rw [hN, ← hnf, ← hng]; exact hmul
  obtain ⟨rc, hrc⟩ : ∃ rc : Nat → List AV, rc = fun k => (rowT f g n keep L (L.getD k ((0, 0), (0, 0))).1).map iA := ⟨_, rfl⟩
  refine Fp.of_vc tok Try.func22 rfl (by decide) ?_
  simp -implicitDefEqProofs only [go_sem, Try.ntmps22, Fa.av, Fa.cells, iA, strsA]
  refine newK_intro fun n2 hn2 => ?_
  try simp -implicitDefEqProofs only [hset, rowsH_names, List.map_append, List.map_cons, List.map_nil, List.cons_append, List.nil_append, List.mem_cons, List.mem_append, List.not_mem_nil, or_false, not_or] at hn2
  simp -implicitDefEqProofs only [go_sem]
  refine newK_intro fun n3 hn3 => ?_
  try simp -implicitDefEqProofs only [hset, rowsH_names, List.map_append, List.map_cons, List.map_nil, List.cons_append, List.nil_append, List.mem_cons, List.mem_append, List.not_mem_nil, or_false, not_or] at hn3
  simp -implicitDefEqProofs only [go_sem, hn3, not_false_eq_true, hget_skip, hset_skip, List.append_assoc, rowsH_names, hnf, hng]
  refine newK_intro fun n4 hn4 => ?_
  try simp -implicitDefEqProofs only [hset, rowsH_names, List.map_append, List.map_cons, List.map_nil, List.cons_append, List.nil_append, List.mem_cons, List.mem_append, List.not_mem_nil, or_false, not_or] at hn4
  simp -implicitDefEqProofs only [go_sem, hn3, hn4, not_false_eq_true, hget_skip, hset_skip, List.append_assoc, rowsH_names, hnf, hng]
  refine opK_pure (lost_ok f g hf hg) rfl (Sub.of_eq (by first | rfl | simp -implicitDefEqProofs only [go_sem])) ?_
  simp -implicitDefEqProofs only [go_sem, hn3, hn4, not_false_eq_true, hget_skip, hset_skip, List.append_assoc, rowsH_names, hnf, hng]
  refine AW.draw tok hmix ⟨[], [], [], false⟩ (by kernel_rfl) (Has.of_sub (List.nil_sublist _)) ?_
  simp -implicitDefEqProofs only [go_sem, hn3, hn4, not_false_eq_true, hget_skip, hset_skip, List.append_assoc, rowsH_names, hnf, hng]
  refine opK_appendImm tok rfl rfl T22 rfl T9 (by decide) rfl (by decide) (by simp only [List.length_map, Nat.div_one]; omega) ?_
  simp -implicitDefEqProofs only [go_sem, hn3, hn4, not_false_eq_true, hget_skip, hset_skip, List.append_assoc, rowsH_names, hnf, hng, hor]
  refine newK_intro fun n7 hn7 => ?_
  try simp -implicitDefEqProofs only [hset, rowsH_names, List.map_append, List.map_cons, List.map_nil, List.cons_append, List.nil_append, List.mem_cons, List.mem_append, List.not_mem_nil, or_false, not_or] at hn7
  simp -implicitDefEqProofs only [go_sem, hn3, hn4, hn7, not_false_eq_true, hget_skip, hset_skip, List.append_assoc, rowsH_names, hnf, hng, hii, han]
  refine opK_make tok (n := nf) (zc := [.raw (.slice none 0 0)]) rfl rfl T23 rfl T44 (by decide) rfl rfl (by simp only; omega) (by omega) fun nO vO hnO => ?_
  try simp -implicitDefEqProofs only [hset, rowsH_names, List.map_append, List.map_cons, List.map_nil, List.cons_append, List.nil_append, List.mem_cons, List.mem_append, List.not_mem_nil, or_false, not_or] at hnO
  simp -implicitDefEqProofs only [go_sem, not_false_eq_true, hget_skip, hset_skip, List.append_assoc, rowsH_names, hnf, hng, hn3, hn4, hn7, hnO, zrep_one, ← outC_zero nf (fun _ => 0) (fun _ => 0), outC_length]
  refine AW.loopP tok (α := Nat × (Nat → Nat) × (Nat → Nat)) (fun a => slots 145 [(2, .ptr n2 0), (3, .ptr n3 0), (4, .ptr n4 0), (5, .raw (.slice none 0 0)), (6, mxA nf ng (lostF f g n)), (7, .ptr n7 0), (8, .own nO vO), (42, iA nf), (43, iA a.1)])
    (fun a => [(n2, .cells 25 [.imm 1 (f.acts.map sA), .raw (.int .i64 f.inn), .raw (.int .i64 f.out), .imm 1 (f.sts.map intsA)]), (n3, .cells 25 [.imm 1 (g.acts.map sA), .raw (.int .i64 g.inn), .raw (.int .i64 g.out), .imm 1 (g.sts.map intsA)]), (n4, .cells 25 [.raw (.slice none 0 0), .raw (.int .i64 0), .raw (.int .i64 0), .raw (.slice none 0 0)]), (n7, .cells 25 [.imm 1 (f.acts.map sA), .raw (.int .i64 (nAndNot (f.iN ||| g.iN) (f.oN ||| g.oN) : Nat)), .raw (.int .i64 (f.oN ||| g.oN : Nat)), .raw (.slice none 0 0)]), (nO, .row 44 1 vO (outC nf a.1 a.2.1 a.2.2))] ++ rowsH a.1 3 1 a.2.1 a.2.2 (mxR ng (fun _ _ => .raw (.int .i64 0))))
    (fun a => a.1 ≤ nf ∧ Inj a.1 a.2.1 ∧ (∀ x, x < a.1 → ¬ a.2.1 x = n2) ∧ (∀ x, x < a.1 → ¬ a.2.1 x = n3) ∧ (∀ x, x < a.1 → ¬ a.2.1 x = n4) ∧ (∀ x, x < a.1 → ¬ a.2.1 x = n7) ∧ (∀ x, x < a.1 → ¬ a.2.1 x = nO)) (fun a => nf - a.1) (0, (fun _ => 0), (fun _ => 0))
    ⟨Nat.zero_le _, inj_zero _, fun x h => absurd h (Nat.not_lt_zero x), fun x h => absurd h (Nat.not_lt_zero x), fun x h => absurd h (Nat.not_lt_zero x), fun x h => absurd h (Nat.not_lt_zero x), fun x h => absurd h (Nat.not_lt_zero x)⟩ (by simp -implicitDefEqProofs only [go_sem, iA]) (by rw [rowsH_zero, List.append_nil]; exact Has.refl _) ?_
  rintro ⟨i, ns, vs⟩ ⟨hi, hI, hne2, hne3, hne4, hne7, hneO⟩
  simp only at hi hI hne2 hne3 hne4 hne7 hneO
  simp -implicitDefEqProofs only [go_sem, not_false_eq_true, hget_skip, hset_skip, List.append_assoc, rowsH_names, hnf, hng, hn3, hn4, hn7, hnO, outC_length, iA]
  by_cases hin : i < nf
  · simp -implicitDefEqProofs only [go_sem, dlt_true hin, not_false_eq_true, hget_skip, hset_skip, List.append_assoc, rowsH_names, hnf, hng, hn3, hn4, hn7, hnO]
    refine opK_make tok (n := ng) (zc := [.raw (.int .i64 0)]) rfl rfl T44 rfl T3 (by decide) rfl rfl (by simp only; omega) (by omega) fun nR vR hnR => ?_
    try simp -implicitDefEqProofs only [hset, rowsH_names, List.map_append, List.map_cons, List.map_nil, List.cons_append, List.nil_append, List.mem_cons, List.mem_append, List.not_mem_nil, or_false, not_or] at hnR
    have hin1 : i + 1 ≤ nf := hin
    simp -implicitDefEqProofs only [go_sem, not_false_eq_true, hget_skip, hset_skip, List.append_assoc, rowsH_names, hnf, hng, hn3, hn4, hn7, hnO, hnR, zrep_one, outC_length, hin, hin1, outC_set ns vs nR vR hin, wrap_up hin (by omega)]
    refine ⟨(i + 1, upd ns i nR, upd vs i vR), ⟨hin, inj_snoc hI (by simp only [hnR, not_false_eq_true]), ne_snoc hne2 (by simp only [hnR, not_false_eq_true]), ne_snoc hne3 (by simp only [hnR, not_false_eq_true]), ne_snoc hne4 (by simp only [hnR, not_false_eq_true]), ne_snoc hne7 (by simp only [hnR, not_false_eq_true]), ne_snoc hneO (by simp only [hnR, not_false_eq_true])⟩, by simp only; omega, by simp -implicitDefEqProofs only [go_sem], ?_⟩
    rw [mxR_const ng _ i, rowsH_addM]
    exact Has.refl _
  obtain rfl : nf = i := by omega
  simp -implicitDefEqProofs only [go_sem, not_false_eq_true, hget_skip, hset_skip, List.append_assoc, rowsH_names, hnf, hng, hn3, hn4, hn7, hnO]
  have h0f : 0 < nf := by omega
  have h0g : 0 < ng := by omega
  have h1f : 1 ≤ nf := by omega
  have h1g : 1 ≤ ng := by omega
  have hm0 : upd2 (fun _ _ => AV.raw (.int .i64 0)) 0 0 (.raw (.int .i64 1)) = atF [(((0, 0), (-1, 0)) : It)] := by
    have h1 := atF_snoc (q := []) (z := (((0, 0), (-1, 0)) : It)) (by simp)
    have e : atF [] = fun _ _ => AV.raw (.int .i64 0) := by funext x y; simp [atF, atI]
    rw [e] at h1; exact h1
  simp -implicitDefEqProofs only [go_sem, not_false_eq_true, hget_skip, hset_skip, List.append_assoc, rowsH_names, hnf, hng, hn3, hn4, hn7, hnO, hget_rowsE hI, hget_rows hI, hset_rowsE hI, hset_rows hI, outC_get, outC_length, mxR_get, mxR_length, mxR_set, mxR_set0, hne2, hne3, hne4, hne7, hneO, h0f, h0g, h1f, h1g, hm0]
  refine opK_litOwn tok rfl T28 rfl T34 (by decide) (by simp -implicitDefEqProofs only [go_sem, zrep, List.flatten_cons, List.flatten_nil]; rfl) fun nX vX hnX => ?_
  try simp -implicitDefEqProofs only [hset, rowsH_names, List.map_append, List.map_cons, List.map_nil, List.cons_append, List.nil_append, List.mem_cons, List.mem_append, List.not_mem_nil, or_false, not_or] at hnX
  simp -implicitDefEqProofs only [go_sem, not_false_eq_true, hget_skip, hset_skip, List.append_assoc, rowsH_names, hnf, hng, hn3, hn4, hn7, hnO, hget_rowsE hI, hget_rows hI, hset_rowsE hI, hset_rows hI, outC_get, outC_length, mxR_get, mxR_length, mxR_set, mxR_set0, hne2, hne3, hne4, hne7, hneO, hnX]
  refine AW.adoptIn (sz := 1) (u := 25) (xs := [.imm 1 (f.acts.map sA), .raw (.int .i64 (nAndNot (f.iN ||| g.iN) (f.oN ||| g.oN) : Nat)), .raw (.int .i64 (f.oN ||| g.oN : Nat)), .raw (.slice none 0 0)]) n7 3 44 (by decide) (by simp -implicitDefEqProofs only [go_sem, not_false_eq_true, hget_skip, hset_skip, List.append_assoc, rowsH_names, hnf, hng, hn3, hn4, hn7, hnO, hget_rowsE hI, hget_rows hI, hset_rowsE hI, hset_rows hI, outC_get, outC_length, mxR_get, mxR_length, mxR_set, mxR_set0, hne2, hne3, hne4, hne7, hneO, hnX]) rfl fun nS hnS => ?_
  try simp -implicitDefEqProofs only [hset, rowsH_names, List.map_append, List.map_cons, List.map_nil, List.cons_append, List.nil_append, List.mem_cons, List.mem_append, List.not_mem_nil, or_false, not_or] at hnS
  have hneX : ∀ x, x < nf → ¬ ns x = nX := names_ne (by simp only [hnX, not_false_eq_true])
  have hneS : ∀ x, x < nf → ¬ ns x = nS := names_ne (by simp only [hnS, not_false_eq_true])
  simp -implicitDefEqProofs only [go_sem, not_false_eq_true, hget_skip, hset_skip, List.append_assoc, rowsH_names, hnf, hng, hn3, hn4, hn7, hnO, hget_rowsE hI, hget_rows hI, hset_rowsE hI, hset_rows hI, outC_get, outC_length, mxR_get, mxR_length, mxR_set, mxR_set0, hne2, hne3, hne4, hne7, hneO, hnX, hnS, hneX, hneS, qc_div]
  refine AW.loopP tok (α := Nat × List It × Nat × (Nat → Nat) × (Nat → Nat) × Nat) (fun a => slots 145 [(2, .ptr n2 0), (3, .ptr n3 0), (4, .ptr n4 0), (5, .raw (.slice none 0 0)), (6, mxA nf ng (lostF f g n)), (7, .ptr n7 0), (8, .own nO vO), (10, .own nX a.2.2.1), (11, iA a.1)])
    (fun a => [(n2, .cells 25 [.imm 1 (f.acts.map sA), .raw (.int .i64 f.inn), .raw (.int .i64 f.out), .imm 1 (f.sts.map intsA)]), (n3, .cells 25 [.imm 1 (g.acts.map sA), .raw (.int .i64 g.inn), .raw (.int .i64 g.out), .imm 1 (g.sts.map intsA)]), (n4, .cells 25 [.raw (.slice none 0 0), .raw (.int .i64 0), .raw (.int .i64 0), .raw (.slice none 0 0)]), (n7, .cells 25 [.imm 1 (f.acts.map sA), .raw (.int .i64 (nAndNot (f.iN ||| g.iN) (f.oN ||| g.oN) : Nat)), .raw (.int .i64 (f.oN ||| g.oN : Nat)), .own nS a.2.2.2.2.2]), (nO, .row 44 1 vO (outC nf nf ns vs)), (nX, .row 34 2 a.2.2.1 (qc a.2.1)), (nS, .row 44 1 a.2.2.2.2.2 (ownsC a.1 a.2.2.2.1 a.2.2.2.2.1))] ++ (rowsH nf 3 1 ns vs (mxR ng (atF a.2.1)) ++ rowsH a.1 3 1 a.2.2.2.1 a.2.2.2.2.1 rc))
    (fun a => a.1 ≤ a.2.1.length ∧ bfs suc (N + 1 - a.1) a.1 a.2.1 = L ∧ (a.2.1.map (·.1)).Nodup ∧ (∀ y ∈ a.2.1, f.In g y.1))
    (fun a => N + 1 - a.1) (0, [(((0, 0), (-1, 0)) : It)], vX, (fun _ => 0), (fun _ => 0), 0) ⟨Nat.zero_le _, hbL, by simp, fun y hy => by simp at hy; subst hy; exact ⟨hf.pos, hg.pos⟩⟩ (by simp -implicitDefEqProofs only [go_sem, iA]) (by
      have := has_end [(n2, .cells 25 [.imm 1 (f.acts.map sA), .raw (.int .i64 f.inn), .raw (.int .i64 f.out), .imm 1 (f.sts.map intsA)]), (n3, .cells 25 [.imm 1 (g.acts.map sA), .raw (.int .i64 g.inn), .raw (.int .i64 g.out), .imm 1 (g.sts.map intsA)]), (n4, .cells 25 [.raw (.slice none 0 0), .raw (.int .i64 0), .raw (.int .i64 0), .raw (.slice none 0 0)]), (n7, .cells 25 [.imm 1 (f.acts.map sA), .raw (.int .i64 (nAndNot (f.iN ||| g.iN) (f.oN ||| g.oN) : Nat)), .raw (.int .i64 (f.oN ||| g.oN : Nat)), .own nS 0]), (nO, .row 44 1 vO (outC nf nf ns vs))] (rowsH nf 3 1 ns vs (mxR ng (atF [(((0, 0), (-1, 0)) : It)]))) [(nX, .row 34 2 vX (qc [(((0, 0), (-1, 0)) : It)])), (nS, .row 44 1 0 [])]
      have e0 : qc [(((0, 0), (-1, 0)) : It)] = [.raw (.int .i64 0), .raw (.int .i64 0)] := rfl
      have e1 : ownsC 0 (fun _ => 0) (fun _ => 0) = [] := rfl
      simpa -implicitDefEqProofs only [e0, e1, rowsH_zero, List.append_nil, List.cons_append, List.nil_append, List.append_assoc] using this) ?_
  rintro ⟨i, q, vX, ns2, vs2, vS⟩ ⟨hi, hbfs, hq, hqin⟩
  simp only at hi hbfs hq hqin
  have hql := hlen q hq hqin
  simp -implicitDefEqProofs only [go_sem, not_false_eq_true, hget_skip, hset_skip, List.append_assoc, rowsH_names, hnf, hng, hn3, hn4, hn7, hnO, hget_rowsE hI, hget_rows hI, hset_rowsE hI, hset_rows hI, outC_get, outC_length, mxR_get, mxR_length, mxR_set, mxR_set0, hne2, hne3, hne4, hne7, hneO, hnX, hnS, hneX, hneS, qc_div, iA]
  by_cases hil : i < q.length
  rotate_left
  · rw [bfs_stop _ (by omega)] at hbfs
    subst hbfs
    have hiq : i = q.length := by omega
    subst hiq
    have e1 : decide ((q.length : Int) < (q.length : Int)) = false := by simp
    simp -implicitDefEqProofs only [go_sem, e1, not_false_eq_true, hget_skip, hset_skip, List.append_assoc, rowsH_names, hnf, hng, hn3, hn4, hn7, hnO, hget_rowsE hI, hget_rows hI, hset_rowsE hI, hset_rows hI, outC_get, outC_length, mxR_get, mxR_length, mxR_set, mxR_set0, hne2, hne3, hne4, hne7, hneO, hnX, hnS, hneX, hneS, qc_div]
    have hst2 : (List.range q.length).map (fun k => AV.imm 1 (rc k)) = (togF f g n keep).sts.map intsA := by
      simp only [togF, ← hL, List.map_map]
      refine List.ext_getElem (by simp) fun k q1 q2 => ?_
      have hkl : k < q.length := by simpa using q1
      simp only [List.getElem_map, List.getElem_range, Function.comp, hrc, intsA, List.getD, List.getElem?_eq_getElem hkl, Option.getD_some]
    have hfzS : Fzs ((nX, AObj.row 34 2 vX (qc q)) :: (nS, .row 44 1 vS (ownsC q.length ns2 vs2)) :: rowsH q.length 3 1 ns2 vs2 rc) (ownsC q.length ns2 vs2) ((List.range q.length).map fun k => AV.imm 1 (rc k)) :=
      Fzs.map fun k hk => Fz.rowS (t := 3) (List.mem_cons_of_mem _ (List.mem_cons_of_mem _ (List.mem_map.2 ⟨k, hk, rfl⟩))) (Fzs.refl _)
    have hfX : Fz ((nX, AObj.row 34 2 vX (qc q)) :: (nS, .row 44 1 vS (ownsC q.length ns2 vs2)) :: rowsH q.length 3 1 ns2 vs2 rc) (.own nX vX) (.imm 2 (qc q)) := Fz.rowS (t := 34) List.mem_cons_self (Fzs.refl _)
    refine fnPost_has (H2 := ((n4, .cells 25 [.imm 1 (f.acts.map sA), .raw (.int .i64 (nAndNot (f.iN ||| g.iN) (f.oN ||| g.oN) : Nat)), .raw (.int .i64 (f.oN ||| g.oN : Nat)), .own nS vS]) :: (nX, AObj.row 34 2 vX (qc q)) :: (nS, .row 44 1 vS (ownsC q.length ns2 vs2)) :: rowsH q.length 3 1 ns2 vs2 rc)) (Has.of_sub (List.Sublist.cons _ (List.Sublist.cons _ (List.Sublist.cons_cons _ (List.Sublist.cons _ (List.Sublist.cons _ (List.Sublist.cons_cons _ (List.Sublist.cons_cons _ (List.sublist_append_right _ _))))))))) ?_
    refine fnPost_fz ((nX, AObj.row 34 2 vX (qc q)) :: (nS, .row 44 1 vS (ownsC q.length ns2 vs2)) :: rowsH q.length 3 1 ns2 vs2 rc) [(n4, .cells 25 [.imm 1 (f.acts.map sA), .raw (.int .i64 (nAndNot (f.iN ||| g.iN) (f.oN ||| g.oN) : Nat)), .raw (.int .i64 (f.oN ||| g.oN : Nat)), .own nS vS])] (t' := slots 145 [(4, .ptr n4 0), (5, .imm 2 (qc q))]) (B' := [(n4, .cells 25 [.imm 1 (f.acts.map sA), .raw (.int .i64 (nAndNot (f.iN ||| g.iN) (f.oN ||| g.oN) : Nat)), .raw (.int .i64 (f.oN ||| g.oN : Nat)), .imm 1 ((List.range q.length).map fun k => AV.imm 1 (rc k))])]) List.perm_append_comm ?_
      (FzH.cons (.cells (Fzs.cons (Fz.refl _) (Fzs.cons (Fz.refl _) (Fzs.cons (Fz.refl _) (Fzs.cons (Fz.rowS (t := 44) (List.mem_cons_of_mem _ List.mem_cons_self) hfzS) Fzs.nil))))) FzH.nil) ?_
    · simp -implicitDefEqProofs only [go_sem]
      repeat (first | exact Fzs.nil | refine Fzs.cons hfX ?_ | refine Fzs.cons (Fz.refl _) ?_ | refine Fzs.cons (Fz.junk _) ?_)
    rw [hst2]
    simp -implicitDefEqProofs only [go_sem]
    refine fnPost_ret tok ?_
    simp -implicitDefEqProofs only [go_sem, Try.results22, togF, ← hL]
  obtain ⟨p, hpe⟩ : ∃ p : Pr, p = q[i].1 := ⟨_, rfl⟩
  have hp : f.In g p := hpe ▸ hqin _ (List.getElem_mem hil)
  have hx := hp.1
  have hy := hp.2
  have hs0 : suc i p = sucs f g keep i p (List.range n) := by rw [hsuc, sucs_range hf hg]
  have hfu : N + 1 - i = (N - i) + 1 := by omega
  rw [hfu, bfs_step _ hil, ← hpe, hs0] at hbfs
  have hLq : pushAll q (sucs f g keep i p (List.range n)) <+: L := hbfs ▸ bfs_prefix _ _ _ _
  have hLi : i < L.length := Nat.lt_of_lt_of_le hil ((pushAll_prefix _ q).trans hLq).length_le
  have hLp : L[i].1 = p := by rw [← ((pushAll_prefix _ q).trans hLq).getElem hil, hpe]
  simp -implicitDefEqProofs only [go_sem, dlt_true hil, not_false_eq_true, hget_skip, hset_skip, List.append_assoc, rowsH_names, hnf, hng, hn3, hn4, hn7, hnO, hget_rowsE hI, hget_rows hI, hset_rowsE hI, hset_rows hI, outC_get, outC_length, mxR_get, mxR_length, mxR_set, mxR_set0, hne2, hne3, hne4, hne7, hneO, hnX, hnS, hneX, hneS, qc_div, hn]
  refine AW.adopt 12 3 (sz := 1) (by decide) rfl fun nY hnY => ?_
  try simp -implicitDefEqProofs only [hset, rowsH_names, List.map_append, List.map_cons, List.map_nil, List.cons_append, List.nil_append, List.mem_cons, List.mem_append, List.not_mem_nil, or_false, not_or] at hnY
  have hneY : ∀ x, x < nf → ¬ ns x = nY := names_ne (by simp only [hnY, not_false_eq_true])
  simp -implicitDefEqProofs only [go_sem, not_false_eq_true, hget_skip, hset_skip, List.append_assoc, rowsH_names, hnf, hng, hn3, hn4, hn7, hnO, hget_rowsE hI, hget_rows hI, hset_rowsE hI, hset_rows hI, outC_get, outC_length, mxR_get, mxR_length, mxR_set, mxR_set0, hne2, hne3, hne4, hne7, hneO, hnX, hnS, hneX, hneS, qc_div, hnY, hneY]
  refine AW.loopP tok (α := Nat × List It × Nat × Nat) (fun a => slots 145 [(2, .ptr n2 0), (3, .ptr n3 0), (4, .ptr n4 0), (5, .raw (.slice none 0 0)), (6, mxA nf ng (lostF f g n)), (7, .ptr n7 0), (8, .own nO vO), (10, .own nX a.2.2.1), (11, iA i), (12, .own nY a.2.2.2), (68, iA n), (69, iA a.1)])
    (fun a => [(n2, .cells 25 [.imm 1 (f.acts.map sA), .raw (.int .i64 f.inn), .raw (.int .i64 f.out), .imm 1 (f.sts.map intsA)]), (n3, .cells 25 [.imm 1 (g.acts.map sA), .raw (.int .i64 g.inn), .raw (.int .i64 g.out), .imm 1 (g.sts.map intsA)]), (n4, .cells 25 [.raw (.slice none 0 0), .raw (.int .i64 0), .raw (.int .i64 0), .raw (.slice none 0 0)]), (n7, .cells 25 [.imm 1 (f.acts.map sA), .raw (.int .i64 (nAndNot (f.iN ||| g.iN) (f.oN ||| g.oN) : Nat)), .raw (.int .i64 (f.oN ||| g.oN : Nat)), .own nS vS]), (nO, .row 44 1 vO (outC nf nf ns vs)), (nX, .row 34 2 a.2.2.1 (qc a.2.1)), (nS, .row 44 1 vS (ownsC i ns2 vs2)), (nY, .row 3 1 a.2.2.2 (((rowT f g n keep L p).take a.1).map iA))] ++ (rowsH nf 3 1 ns vs (mxR ng (atF a.2.1)) ++ rowsH i 3 1 ns2 vs2 rc))
    (fun a => a.1 ≤ n ∧ a.2.1 = pushAll q (sucs f g keep i p (List.range a.1)))
    (fun a => n - a.1) (0, q, vX, 0) ⟨Nat.zero_le _, rfl⟩ (by simp -implicitDefEqProofs only [go_sem, iA]) (by
      have := has_end [(n2, .cells 25 [.imm 1 (f.acts.map sA), .raw (.int .i64 f.inn), .raw (.int .i64 f.out), .imm 1 (f.sts.map intsA)]), (n3, .cells 25 [.imm 1 (g.acts.map sA), .raw (.int .i64 g.inn), .raw (.int .i64 g.out), .imm 1 (g.sts.map intsA)]), (n4, .cells 25 [.raw (.slice none 0 0), .raw (.int .i64 0), .raw (.int .i64 0), .raw (.slice none 0 0)]), (n7, .cells 25 [.imm 1 (f.acts.map sA), .raw (.int .i64 (nAndNot (f.iN ||| g.iN) (f.oN ||| g.oN) : Nat)), .raw (.int .i64 (f.oN ||| g.oN : Nat)), .own nS vS]), (nO, .row 44 1 vO (outC nf nf ns vs)), (nX, .row 34 2 vX (qc q)), (nS, .row 44 1 vS (ownsC i ns2 vs2))] (rowsH nf 3 1 ns vs (mxR ng (atF q)) ++ rowsH i 3 1 ns2 vs2 rc) [(nY, .row 3 1 0 [])]
      simpa -implicitDefEqProofs only [List.take_zero, List.map_nil, List.append_nil, List.cons_append, List.nil_append, List.append_assoc] using this) ?_
  rintro ⟨a, q2, v2, vY⟩ ⟨ha, hq2⟩
  simp only at ha hq2
  have hq2n : (q2.map (·.1)).Nodup := hq2 ▸ pushAll_nodup _ _ hq
  have hpre2 : q <+: q2 := hq2 ▸ pushAll_prefix _ _
  have hq2in : ∀ z ∈ q2, f.In g z.1 := fun z hz => by
    rw [hq2] at hz
    rcases pushAll_mem hz with hz | hz
    · exact hqin z hz
    · simp only [sucs, List.mem_filterMap] at hz
      obtain ⟨b, h1, h2⟩ := hz
      exact suc1_in hf hg hp (Nat.lt_of_lt_of_le (List.mem_range.1 h1) ha) h2
  have hq2l := hlen q2 hq2n hq2in
  have hp2le := hpre2.length_le
  have hrl : (rowT f g n keep L p).length = n := by simp [rowT]
  have htl : ((rowT f g n keep L p).take a).length = a := by rw [List.length_take, hrl]; omega
  simp -implicitDefEqProofs only [go_sem, not_false_eq_true, hget_skip, hset_skip, List.append_assoc, rowsH_names, hnf, hng, hn3, hn4, hn7, hnO, hget_rowsE hI, hget_rows hI, hset_rowsE hI, hset_rows hI, outC_get, outC_length, mxR_get, mxR_length, mxR_set, mxR_set0, hne2, hne3, hne4, hne7, hneO, hnX, hnS, hneX, hneS, qc_div, hnY, hneY, iA]
  by_cases han : a < n
  rotate_left
  · obtain rfl : n = a := by omega
    have e1 : decide ((n : Int) < (n : Int)) = false := by simp
    simp -implicitDefEqProofs only [go_sem, e1, not_false_eq_true, hget_skip, hset_skip, List.append_assoc, rowsH_names, hnf, hng, hn3, hn4, hn7, hnO, hget_rowsE hI, hget_rows hI, hset_rowsE hI, hset_rows hI, outC_get, outC_length, mxR_get, mxR_length, mxR_set, mxR_set0, hne2, hne3, hne4, hne7, hneO, hnX, hnS, hneX, hneS, qc_div, hnY, hneY]
    refine opK_lit tok T23 rfl T44 (by decide) (by simp -implicitDefEqProofs only [go_sem, zrep, List.flatten_cons, List.flatten_nil]; rfl) ?_
    simp -implicitDefEqProofs only [go_sem, not_false_eq_true, hget_skip, hset_skip, List.append_assoc, rowsH_names, hnf, hng, hn3, hn4, hn7, hnO, hget_rowsE hI, hget_rows hI, hset_rowsE hI, hset_rows hI, outC_get, outC_length, mxR_get, mxR_length, mxR_set, mxR_set0, hne2, hne3, hne4, hne7, hneO, hnX, hnS, hneX, hneS, qc_div, hnY, hneY]
    refine opK_append tok rfl rfl (by simp -implicitDefEqProofs only [go_sem, not_false_eq_true, hget_skip, hset_skip, List.append_assoc, rowsH_names, hnf, hng, hn3, hn4, hn7, hnO, hget_rowsE hI, hget_rows hI, hset_rowsE hI, hset_rows hI, outC_get, outC_length, mxR_get, mxR_length, mxR_set, mxR_set0, hne2, hne3, hne4, hne7, hneO, hnX, hnS, hneX, hneS, qc_div, hnY, hneY]; rfl) rfl T23 rfl T44 rfl (by decide) (by simp only [ownsC_length, Nat.div_one, List.length_cons, List.length_nil]; omega) fun v3 => ?_
    simp -implicitDefEqProofs only [go_sem, not_false_eq_true, hget_skip, hset_skip, List.append_assoc, rowsH_names, hnf, hng, hn3, hn4, hn7, hnO, hget_rowsE hI, hget_rows hI, hset_rowsE hI, hset_rows hI, outC_get, outC_length, mxR_get, mxR_length, mxR_set, mxR_set0, hne2, hne3, hne4, hne7, hneO, hnX, hnS, hneX, hneS, qc_div, hnY, hneY, ownsC_snoc, wrap_up hil (by omega)]
    have hfu2 : N + 1 - (i + 1) = N - i := by omega
    have hrow : (((rowT f g n keep L p).take n).map iA) = rc i := by
      rw [List.take_of_length_le (by omega), hrc]
      simp only [List.getD, List.getElem?_eq_getElem hLi, Option.getD_some, hLp]
    refine ⟨(i + 1, q2, v2, upd ns2 i nY, upd vs2 i vY, v3), ⟨by simp only; omega, by simp only; rw [hfu2, hq2]; exact hbfs, hq2n, hq2in⟩, by simp only; omega, by simp -implicitDefEqProofs only [go_sem], ?_⟩
    have e2 : rowsH (i + 1) 3 1 (upd ns2 i nY) (upd vs2 i vY) rc = rowsH i 3 1 ns2 vs2 rc ++ [(nY, .row 3 1 vY (rc i))] := by
      rw [rowsH_add]
      exact rowsH_congr fun k hk => ⟨rfl, rfl, by by_cases e : k = i; (subst e; rw [upd_same]); rw [upd_ne e]⟩
    have := has_end [(n2, .cells 25 [.imm 1 (f.acts.map sA), .raw (.int .i64 f.inn), .raw (.int .i64 f.out), .imm 1 (f.sts.map intsA)]), (n3, .cells 25 [.imm 1 (g.acts.map sA), .raw (.int .i64 g.inn), .raw (.int .i64 g.out), .imm 1 (g.sts.map intsA)]), (n4, .cells 25 [.raw (.slice none 0 0), .raw (.int .i64 0), .raw (.int .i64 0), .raw (.slice none 0 0)]), (n7, .cells 25 [.imm 1 (f.acts.map sA), .raw (.int .i64 (nAndNot (f.iN ||| g.iN) (f.oN ||| g.oN) : Nat)), .raw (.int .i64 (f.oN ||| g.oN : Nat)), .own nS v3]), (nO, .row 44 1 vO (outC nf nf ns vs)), (nX, .row 34 2 v2 (qc q2)), (nS, .row 44 1 v3 (ownsC (i + 1) (upd ns2 i nY) (upd vs2 i vY)))] [(nY, .row 3 1 vY (rc i))] (rowsH nf 3 1 ns vs (mxR ng (atF q2)) ++ rowsH i 3 1 ns2 vs2 rc)
    simp only [e2, hrow]
    simpa -implicitDefEqProofs only [List.cons_append, List.nil_append, List.append_assoc] using this
  have eg : ((qc q2).drop (i * 2)).take 2 = [.raw (.int .i64 p.1), .raw (.int .i64 p.2)] := by
    rw [qc_get (Nat.lt_of_lt_of_le hil hp2le), ← hpre2.getElem hil, ← hpe]; rfl
  have el : i * 2 + 2 ≤ (qc q2).length := by rw [qc_length]; omega
  have el2 : i * 2 < (qc q2).length := by omega
  simp -implicitDefEqProofs only [go_sem, dlt_true han, not_false_eq_true, hget_skip, hset_skip, List.append_assoc, rowsH_names, hnf, hng, hn3, hn4, hn7, hnO, hget_rowsE hI, hget_rows hI, hset_rowsE hI, hset_rows hI, outC_get, outC_length, mxR_get, mxR_length, mxR_set, mxR_set0, hne2, hne3, hne4, hne7, hneO, hnX, hnS, hneX, hneS, qc_div, hnY, hneY]
  refine AW.draw tok hmix ⟨[], [], [], false⟩ (by kernel_rfl) (Has.of_sub (List.nil_sublist _)) ?_
  simp -implicitDefEqProofs only [go_sem, not_false_eq_true, hget_skip, hset_skip, List.append_assoc, rowsH_names, hnf, hng, hn3, hn4, hn7, hnO, hget_rowsE hI, hget_rows hI, hset_rowsE hI, hset_rows hI, outC_get, outC_length, mxR_get, mxR_length, mxR_set, mxR_set0, hne2, hne3, hne4, hne7, hneO, hnX, hnS, hneX, hneS, qc_div, hnY, hneY, eg, el, el2]
  refine opK_pure (stepR_ok f g p.1 p.2 a hx hy (by rw [hf.row _ hx]; exact han) (by rw [hg.row _ hy]; exact han)) rfl (Sub.of_eq (by first | rfl | simp -implicitDefEqProofs only [go_sem])) ?_
  simp -implicitDefEqProofs only [go_sem, pairA, iA, stepR_eq hf hg p.1 p.2 han]
  refine newK_intro fun n14 hn14 => ?_
  try simp -implicitDefEqProofs only [hset, rowsH_names, List.map_append, List.map_cons, List.map_nil, List.cons_append, List.nil_append, List.mem_cons, List.mem_append, List.not_mem_nil, or_false, not_or] at hn14
  have hne14 : ∀ x, x < nf → ¬ ns x = n14 := names_ne (by simp only [hn14, not_false_eq_true])
  simp -implicitDefEqProofs only [go_sem, not_false_eq_true, hget_skip, hset_skip, List.append_assoc, rowsH_names, hnf, hng, hn3, hn4, hn7, hnO, hget_rowsE hI, hget_rows hI, hset_rowsE hI, hset_rows hI, outC_get, outC_length, mxR_get, mxR_length, mxR_set, mxR_set0, hne2, hne3, hne4, hne7, hneO, hnX, hnS, hneX, hneS, qc_div, hnY, hneY, hn14, hne14]
  refine AW.draw tok hmix ⟨[], [], [], false⟩ (by kernel_rfl) (Has.of_sub (List.nil_sublist _)) ?_
  have hrt := rowT_get (f := f) (g := g) (keep := keep) (L := L) (p := p) han
  have hsnoc : sucs f g keep i p (List.range (a + 1)) = sucs f g keep i p (List.range a) ++ sucs f g keep i p [a] := by
    rw [List.range_succ]; simp [sucs, List.filterMap_append]
  have hnext : ∀ (q3 : List It) (v3 vZ : Nat) (c : List AV) (o : AObj), Has ([(n2, .cells 25 [.imm 1 (f.acts.map sA), .raw (.int .i64 f.inn), .raw (.int .i64 f.out), .imm 1 (f.sts.map intsA)]), (n3, .cells 25 [.imm 1 (g.acts.map sA), .raw (.int .i64 g.inn), .raw (.int .i64 g.out), .imm 1 (g.sts.map intsA)]), (n4, .cells 25 [.raw (.slice none 0 0), .raw (.int .i64 0), .raw (.int .i64 0), .raw (.slice none 0 0)]), (n7, .cells 25 [.imm 1 (f.acts.map sA), .raw (.int .i64 (nAndNot (f.iN ||| g.iN) (f.oN ||| g.oN) : Nat)), .raw (.int .i64 (f.oN ||| g.oN : Nat)), .own nS vS]), (nO, .row 44 1 vO (outC nf nf ns vs)), (nX, .row 34 2 v3 (qc q3)), (nS, .row 44 1 vS (ownsC i ns2 vs2)), (nY, .row 3 1 vZ c)] ++ (rowsH nf 3 1 ns vs (mxR ng (atF q3)) ++ rowsH i 3 1 ns2 vs2 rc)) ([(n2, .cells 25 [.imm 1 (f.acts.map sA), .raw (.int .i64 f.inn), .raw (.int .i64 f.out), .imm 1 (f.sts.map intsA)]), (n3, .cells 25 [.imm 1 (g.acts.map sA), .raw (.int .i64 g.inn), .raw (.int .i64 g.out), .imm 1 (g.sts.map intsA)]), (n4, .cells 25 [.raw (.slice none 0 0), .raw (.int .i64 0), .raw (.int .i64 0), .raw (.slice none 0 0)]), (n7, .cells 25 [.imm 1 (f.acts.map sA), .raw (.int .i64 (nAndNot (f.iN ||| g.iN) (f.oN ||| g.oN) : Nat)), .raw (.int .i64 (f.oN ||| g.oN : Nat)), .own nS vS]), (nO, .row 44 1 vO (outC nf nf ns vs)), (nX, .row 34 2 v3 (qc q3)), (nS, .row 44 1 vS (ownsC i ns2 vs2)), (nY, .row 3 1 vZ c)] ++ ((rowsH nf 3 1 ns vs (mxR ng (atF q3)) ++ rowsH i 3 1 ns2 vs2 rc) ++ [(n14, o)])) := fun q3 v3 vZ c o =>
    has_left [(n2, .cells 25 [.imm 1 (f.acts.map sA), .raw (.int .i64 f.inn), .raw (.int .i64 f.out), .imm 1 (f.sts.map intsA)]), (n3, .cells 25 [.imm 1 (g.acts.map sA), .raw (.int .i64 g.inn), .raw (.int .i64 g.out), .imm 1 (g.sts.map intsA)]), (n4, .cells 25 [.raw (.slice none 0 0), .raw (.int .i64 0), .raw (.int .i64 0), .raw (.slice none 0 0)]), (n7, .cells 25 [.imm 1 (f.acts.map sA), .raw (.int .i64 (nAndNot (f.iN ||| g.iN) (f.oN ||| g.oN) : Nat)), .raw (.int .i64 (f.oN ||| g.oN : Nat)), .own nS vS]), (nO, .row 44 1 vO (outC nf nf ns vs)), (nX, .row 34 2 v3 (qc q3)), (nS, .row 44 1 vS (ownsC i ns2 vs2)), (nY, .row 3 1 vZ c)] (rowsH nf 3 1 ns vs (mxR ng (atF q3)) ++ rowsH i 3 1 ns2 vs2 rc) [(n14, o)]
  cases hst : stepN f g p a with
  | none =>
    simp only [hst] at hrt
    have hrow : (((rowT f g n keep L p).take a).map iA) ++ [.raw (.int .i64 (-1))] = ((rowT f g n keep L p).take (a + 1)).map iA := by rw [hrt, List.map_append]; rfl
    simp -implicitDefEqProofs only [go_sem, stepN_none hst, not_false_eq_true, hget_skip, hset_skip, List.append_assoc, rowsH_names, hnf, hng, hn3, hn4, hn7, hnO, hget_rowsE hI, hget_rows hI, hset_rowsE hI, hset_rows hI, outC_get, outC_length, mxR_get, mxR_length, mxR_set, mxR_set0, hne2, hne3, hne4, hne7, hneO, hnX, hnS, hneX, hneS, qc_div, hnY, hneY, hn14, hne14]
    refine opK_lit tok T44 rfl T3 (by decide) (by simp -implicitDefEqProofs only [go_sem, zrep, List.flatten_cons, List.flatten_nil]; rfl) ?_
    simp -implicitDefEqProofs only [go_sem, not_false_eq_true, hget_skip, hset_skip, List.append_assoc, rowsH_names, hnf, hng, hn3, hn4, hn7, hnO, hget_rowsE hI, hget_rows hI, hset_rowsE hI, hset_rows hI, outC_get, outC_length, mxR_get, mxR_length, mxR_set, mxR_set0, hne2, hne3, hne4, hne7, hneO, hnX, hnS, hneX, hneS, qc_div, hnY, hneY, hn14, hne14]
    refine opK_append tok rfl rfl (by simp -implicitDefEqProofs only [go_sem, not_false_eq_true, hget_skip, hset_skip, List.append_assoc, rowsH_names, hnf, hng, hn3, hn4, hn7, hnO, hget_rowsE hI, hget_rows hI, hset_rowsE hI, hset_rows hI, outC_get, outC_length, mxR_get, mxR_length, mxR_set, mxR_set0, hne2, hne3, hne4, hne7, hneO, hnX, hnS, hneX, hneS, qc_div, hnY, hneY, hn14, hne14]; rfl) rfl T44 rfl T3 rfl (by decide) (by simp only [List.length_map, htl, Nat.div_one, List.length_cons, List.length_nil]; omega) fun v5 => ?_
    simp -implicitDefEqProofs only [go_sem, not_false_eq_true, hget_skip, hset_skip, List.append_assoc, rowsH_names, hnf, hng, hn3, hn4, hn7, hnO, hget_rowsE hI, hget_rows hI, hset_rowsE hI, hset_rows hI, outC_get, outC_length, mxR_get, mxR_length, mxR_set, mxR_set0, hne2, hne3, hne4, hne7, hneO, hnX, hnS, hneX, hneS, qc_div, hnY, hneY, hn14, hne14, hrow, wrap_up han (by omega)]
    refine ⟨(a + 1, q2, v2, v5), ⟨han, ?_⟩, by simp only; omega, by simp -implicitDefEqProofs only [go_sem], ?_⟩
    · simp only [hsnoc, pushAll_append, ← hq2]
      simp [sucs, suc1, hst, pushAll]
    · have := hnext q2 v2 v5 (((rowT f g n keep L p).take (a + 1)).map iA) (.cells 34 [.raw (.int .i64 (stepI f g p.1 p.2 a).1), .raw (.int .i64 (stepI f g p.1 p.2 a).2)])
      simpa -implicitDefEqProofs only [List.cons_append, List.nil_append, List.append_assoc] using this
  | some tq =>
    obtain ⟨hB, hIn, hI2⟩ := stepN_some hf hg hp han hst
    have hi1 := hIn.1
    have hi2 := hIn.2
    rw [hnf] at hi1
    rw [hng] at hi2
    have hi3 : tq.1 + 1 ≤ nf := hi1
    have hi4 : tq.2 + 1 ≤ ng := hi2
    have eL : ((List.range nf).map fun x => AV.imm 1 (mxR ng (lostF f g n) x))[tq.1]? = some (.imm 1 (mxR ng (lostF f g n) tq.1)) := by simp [hi1]
    have hkd : keep tq = !lostD f g n (tq.1, tq.2) := by rw [hkeep]; rfl
    simp -implicitDefEqProofs only [go_sem, hB, hI2, not_false_eq_true, hget_skip, hset_skip, List.append_assoc, rowsH_names, hnf, hng, hn3, hn4, hn7, hnO, hget_rowsE hI, hget_rows hI, hset_rowsE hI, hset_rows hI, outC_get, outC_length, mxR_get, mxR_length, mxR_set, mxR_set0, hne2, hne3, hne4, hne7, hneO, hnX, hnS, hneX, hneS, qc_div, hnY, hneY, hn14, hne14, mxA, List.length_range, hi1, hi2, eL, lostF]
    simp only [hst] at hrt
    cases hk : lostD f g n (tq.1, tq.2) with
    | true =>
      have hkt : keep tq = false := by rw [hkd, hk]; rfl
      have hrow : (((rowT f g n keep L p).take a).map iA) ++ [.raw (.int .i64 (-1))] = ((rowT f g n keep L p).take (a + 1)).map iA := by rw [hrt, List.map_append, hkt]; rfl
      simp -implicitDefEqProofs only [go_sem, not_false_eq_true, hget_skip, hset_skip, List.append_assoc, rowsH_names, hnf, hng, hn3, hn4, hn7, hnO, hget_rowsE hI, hget_rows hI, hset_rowsE hI, hset_rows hI, outC_get, outC_length, mxR_get, mxR_length, mxR_set, mxR_set0, hne2, hne3, hne4, hne7, hneO, hnX, hnS, hneX, hneS, qc_div, hnY, hneY, hn14, hne14]
      refine opK_lit tok T44 rfl T3 (by decide) (by simp -implicitDefEqProofs only [go_sem, zrep, List.flatten_cons, List.flatten_nil]; rfl) ?_
      simp -implicitDefEqProofs only [go_sem, not_false_eq_true, hget_skip, hset_skip, List.append_assoc, rowsH_names, hnf, hng, hn3, hn4, hn7, hnO, hget_rowsE hI, hget_rows hI, hset_rowsE hI, hset_rows hI, outC_get, outC_length, mxR_get, mxR_length, mxR_set, mxR_set0, hne2, hne3, hne4, hne7, hneO, hnX, hnS, hneX, hneS, qc_div, hnY, hneY, hn14, hne14]
      refine opK_append tok rfl rfl (by simp -implicitDefEqProofs only [go_sem, not_false_eq_true, hget_skip, hset_skip, List.append_assoc, rowsH_names, hnf, hng, hn3, hn4, hn7, hnO, hget_rowsE hI, hget_rows hI, hset_rowsE hI, hset_rows hI, outC_get, outC_length, mxR_get, mxR_length, mxR_set, mxR_set0, hne2, hne3, hne4, hne7, hneO, hnX, hnS, hneX, hneS, qc_div, hnY, hneY, hn14, hne14]; rfl) rfl T44 rfl T3 rfl (by decide) (by simp only [List.length_map, htl, Nat.div_one, List.length_cons, List.length_nil]; omega) fun v5 => ?_
      simp -implicitDefEqProofs only [go_sem, not_false_eq_true, hget_skip, hset_skip, List.append_assoc, rowsH_names, hnf, hng, hn3, hn4, hn7, hnO, hget_rowsE hI, hget_rows hI, hset_rowsE hI, hset_rows hI, outC_get, outC_length, mxR_get, mxR_length, mxR_set, mxR_set0, hne2, hne3, hne4, hne7, hneO, hnX, hnS, hneX, hneS, qc_div, hnY, hneY, hn14, hne14, hrow, wrap_up han (by omega)]
      refine ⟨(a + 1, q2, v2, v5), ⟨han, ?_⟩, by simp only; omega, by simp -implicitDefEqProofs only [go_sem], ?_⟩
      · simp only [hsnoc, pushAll_append, ← hq2]
        simp [sucs, suc1, hst, pushAll, hkt]
      · have := hnext q2 v2 v5 (((rowT f g n keep L p).take (a + 1)).map iA) (.cells 34 [.raw (.int .i64 tq.1), .raw (.int .i64 tq.2)])
        simpa -implicitDefEqProofs only [List.cons_append, List.nil_append, List.append_assoc] using this
    | false =>
      have hkt : keep tq = true := by rw [hkd, hk]; rfl
      rw [if_pos hkt] at hrt
      simp -implicitDefEqProofs only [go_sem, not_false_eq_true, hget_skip, hset_skip, List.append_assoc, rowsH_names, hnf, hng, hn3, hn4, hn7, hnO, hget_rowsE hI, hget_rows hI, hset_rowsE hI, hset_rows hI, outC_get, outC_length, mxR_get, mxR_length, mxR_set, mxR_set0, hne2, hne3, hne4, hne7, hneO, hnX, hnS, hneX, hneS, qc_div, hnY, hneY, hn14, hne14]
      refine AW.draw tok hmix ⟨[], [], [], false⟩ (by kernel_rfl) (Has.of_sub (List.nil_sublist _)) ?_
      by_cases hs : tq ∈ q2.map (·.1)
      · have hat : atI q2 tq.1 tq.2 = (((q2.map (·.1)).idxOf tq : Nat) : Int) + 1 := atI_mem hs
        have hne0 : ¬ ((((q2.map (·.1)).idxOf tq : Nat) : Int) + 1 = 0) := by omega
        have hix : (q2.map (·.1)).idxOf tq < q2.length := by have := List.idxOf_lt_length_iff.2 hs; simpa using this
        have hw1 : IntKind.i64.wrap ((((q2.map (·.1)).idxOf tq : Nat) : Int) + 1 - 1) = (((q2.map (·.1)).idxOf tq : Nat) : Int) := by rw [IntWalk.i64_in _ (by omega)]; omega
        have hq3 : q2 = pushAll q (sucs f g keep i p (List.range (a + 1))) := by
          rw [hsnoc, pushAll_append, ← hq2]
          have e : sucs f g keep i p [a] = [(tq, (((i : Nat) : Int), (a : Int)))] := by simp [sucs, suc1, hst, hkt]
          rw [e, pushAll_cons, pushAll_nil, push_old hs]
        have hqL : q2 <+: L := by
          rw [hq3]
          have h1 := sucs_take f g keep i p q (List.range n) (a + 1)
          have h2 : (List.range n).take (a + 1) = List.range (a + 1) := by rw [List.take_range]; congr 1; omega
          rw [h2] at h1; exact h1.trans hLq
        have hrow : (((rowT f g n keep L p).take a).map iA) ++ [.raw (.int .i64 (((q2.map (·.1)).idxOf tq : Nat) : Int))] = ((rowT f g n keep L p).take (a + 1)).map iA := by rw [hrt, List.map_append, idxOf_pre hqL hs]; rfl
        simp -implicitDefEqProofs only [go_sem, not_false_eq_true, hget_skip, hset_skip, List.append_assoc, rowsH_names, hnf, hng, hn3, hn4, hn7, hnO, hget_rowsE hI, hget_rows hI, hset_rowsE hI, hset_rows hI, outC_get, outC_length, mxR_get, mxR_length, mxR_set, mxR_set0, hne2, hne3, hne4, hne7, hneO, hnX, hnS, hneX, hneS, qc_div, hnY, hneY, hn14, hne14, hi1, hi2, hi3, hi4, atF, hat, hne0, decide_false]
        refine AW.draw tok hmix ⟨[135], [], [], false⟩ (by kernel_rfl) (Has.of_sub (List.nil_sublist _)) ?_
        simp -implicitDefEqProofs only [go_sem, not_false_eq_true, hget_skip, hset_skip, List.append_assoc, rowsH_names, hnf, hng, hn3, hn4, hn7, hnO, hget_rowsE hI, hget_rows hI, hset_rowsE hI, hset_rows hI, outC_get, outC_length, mxR_get, mxR_length, mxR_set, mxR_set0, hne2, hne3, hne4, hne7, hneO, hnX, hnS, hneX, hneS, qc_div, hnY, hneY, hn14, hne14, hi1, hi2, hi3, hi4, atF, hat, hw1]
        refine opK_lit tok T44 rfl T3 (by decide) (by simp -implicitDefEqProofs only [go_sem, zrep, List.flatten_cons, List.flatten_nil]; rfl) ?_
        simp -implicitDefEqProofs only [go_sem, not_false_eq_true, hget_skip, hset_skip, List.append_assoc, rowsH_names, hnf, hng, hn3, hn4, hn7, hnO, hget_rowsE hI, hget_rows hI, hset_rowsE hI, hset_rows hI, outC_get, outC_length, mxR_get, mxR_length, mxR_set, mxR_set0, hne2, hne3, hne4, hne7, hneO, hnX, hnS, hneX, hneS, qc_div, hnY, hneY, hn14, hne14]
        refine opK_append tok rfl rfl (by simp -implicitDefEqProofs only [go_sem, not_false_eq_true, hget_skip, hset_skip, List.append_assoc, rowsH_names, hnf, hng, hn3, hn4, hn7, hnO, hget_rowsE hI, hget_rows hI, hset_rowsE hI, hset_rows hI, outC_get, outC_length, mxR_get, mxR_length, mxR_set, mxR_set0, hne2, hne3, hne4, hne7, hneO, hnX, hnS, hneX, hneS, qc_div, hnY, hneY, hn14, hne14]; rfl) rfl T44 rfl T3 rfl (by decide) (by simp only [List.length_map, htl, Nat.div_one, List.length_cons, List.length_nil]; omega) fun v5 => ?_
        simp -implicitDefEqProofs only [go_sem, not_false_eq_true, hget_skip, hset_skip, List.append_assoc, rowsH_names, hnf, hng, hn3, hn4, hn7, hnO, hget_rowsE hI, hget_rows hI, hset_rowsE hI, hset_rows hI, outC_get, outC_length, mxR_get, mxR_length, mxR_set, mxR_set0, hne2, hne3, hne4, hne7, hneO, hnX, hnS, hneX, hneS, qc_div, hnY, hneY, hn14, hne14, hrow, wrap_up han (by omega)]
        refine ⟨(a + 1, q2, v2, v5), ⟨han, hq3⟩, by simp only; omega, by simp -implicitDefEqProofs only [go_sem], ?_⟩
        have := hnext q2 v2 v5 (((rowT f g n keep L p).take (a + 1)).map iA) (.cells 34 [.raw (.int .i64 tq.1), .raw (.int .i64 tq.2)])
        simpa -implicitDefEqProofs only [List.cons_append, List.nil_append, List.append_assoc] using this
      have hat : atI q2 tq.1 tq.2 = 0 := atI_not hs
      obtain ⟨x, hx0⟩ : ∃ x : It, x = (tq, (((i : Nat) : Int), (a : Int))) := ⟨_, rfl⟩
      have hxs : x.1 ∉ q2.map (·.1) := by rw [hx0]; exact hs
      have hq3 : q2 ++ [x] = pushAll q (sucs f g keep i p (List.range (a + 1))) := by
        rw [hsnoc, pushAll_append, ← hq2]
        have e : sucs f g keep i p [a] = [x] := by rw [hx0]; simp [sucs, suc1, hst, hkt]
        rw [e, pushAll_cons, pushAll_nil, push_new hxs]
      have hqL : q2 ++ [x] <+: L := by
        rw [hq3]
        have h1 := sucs_take f g keep i p q (List.range n) (a + 1)
        have h2 : (List.range n).take (a + 1) = List.range (a + 1) := by rw [List.take_range]; congr 1; omega
        rw [h2] at h1; exact h1.trans hLq
      have hs3 : tq ∈ (q2 ++ [x]).map (·.1) := by rw [hx0]; simp
      have hat3 : atI (q2 ++ [x]) tq.1 tq.2 = ((((q2 ++ [x]).map (·.1)).idxOf tq : Nat) : Int) + 1 := atI_mem hs3
      have hix : ((q2 ++ [x]).map (·.1)).idxOf tq < q2.length + 1 := by have := List.idxOf_lt_length_iff.2 hs3; simpa using this
      have hw1 : IntKind.i64.wrap (((((q2 ++ [x]).map (·.1)).idxOf tq : Nat) : Int) + 1 - 1) = ((((q2 ++ [x]).map (·.1)).idxOf tq : Nat) : Int) := by rw [IntWalk.i64_in _ (by omega)]; omega
      have hrow : (((rowT f g n keep L p).take a).map iA) ++ [.raw (.int .i64 ((((q2 ++ [x]).map (·.1)).idxOf tq : Nat) : Int))] = ((rowT f g n keep L p).take (a + 1)).map iA := by rw [hrt, idxOf_pre hqL hs3, List.map_append (f := iA)]; rfl
      have hsf : upd2 (atF q2) tq.1 tq.2 (.raw (.int .i64 (((q2 ++ [x]).length : Nat) : Int))) = atF (q2 ++ [x]) := by
        have h1 := atF_snoc hxs
        rw [hx0] at h1 ⊢
        rw [List.length_append]; exact h1
      have hqc : qc q2 ++ [.raw (.int .i64 tq.1), .raw (.int .i64 tq.2)] = qc (q2 ++ [x]) := by
        have := qc_snoc q2 x
        rw [← this, hx0]; rfl
      simp -implicitDefEqProofs only [go_sem, not_false_eq_true, hget_skip, hset_skip, List.append_assoc, rowsH_names, hnf, hng, hn3, hn4, hn7, hnO, hget_rowsE hI, hget_rows hI, hset_rowsE hI, hset_rows hI, outC_get, outC_length, mxR_get, mxR_length, mxR_set, mxR_set0, hne2, hne3, hne4, hne7, hneO, hnX, hnS, hneX, hneS, qc_div, hnY, hneY, hn14, hne14, hi1, hi2, hi3, hi4, atF, hat, decide_true]
      refine opK_lit tok T28 rfl T34 (by decide) (by simp -implicitDefEqProofs only [go_sem, zrep, List.flatten_cons, List.flatten_nil]; rfl) ?_
      simp -implicitDefEqProofs only [go_sem, not_false_eq_true, hget_skip, hset_skip, List.append_assoc, rowsH_names, hnf, hng, hn3, hn4, hn7, hnO, hget_rowsE hI, hget_rows hI, hset_rowsE hI, hset_rows hI, outC_get, outC_length, mxR_get, mxR_length, mxR_set, mxR_set0, hne2, hne3, hne4, hne7, hneO, hnX, hnS, hneX, hneS, qc_div, hnY, hneY, hn14, hne14]
      refine opK_append tok rfl rfl (by simp -implicitDefEqProofs only [go_sem, not_false_eq_true, hget_skip, hset_skip, List.append_assoc, rowsH_names, hnf, hng, hn3, hn4, hn7, hnO, hget_rowsE hI, hget_rows hI, hset_rowsE hI, hset_rows hI, outC_get, outC_length, mxR_get, mxR_length, mxR_set, mxR_set0, hne2, hne3, hne4, hne7, hneO, hnX, hnS, hneX, hneS, qc_div, hnY, hneY, hn14, hne14]; rfl) rfl T28 rfl T34 rfl (by decide) (by simp only [qc_div, List.length_cons, List.length_nil]; omega) fun v3 => ?_
      simp -implicitDefEqProofs only [go_sem, not_false_eq_true, hget_skip, hset_skip, List.append_assoc, rowsH_names, hnf, hng, hn3, hn4, hn7, hnO, hget_rowsE hI, hget_rows hI, hset_rowsE hI, hset_rows hI, outC_get, outC_length, mxR_get, mxR_length, mxR_set, mxR_set0, hne2, hne3, hne4, hne7, hneO, hnX, hnS, hneX, hneS, qc_div, hnY, hneY, hn14, hne14, hqc]
      refine AW.draw tok hmix ⟨[], [], [], false⟩ (by kernel_rfl) (Has.of_sub (List.nil_sublist _)) ?_
      simp -implicitDefEqProofs only [go_sem, not_false_eq_true, hget_skip, hset_skip, List.append_assoc, rowsH_names, hnf, hng, hn3, hn4, hn7, hnO, hget_rowsE hI, hget_rows hI, hset_rowsE hI, hset_rows hI, outC_get, outC_length, mxR_get, mxR_length, mxR_set, mxR_set0, hne2, hne3, hne4, hne7, hneO, hnX, hnS, hneX, hneS, qc_div, hnY, hneY, hn14, hne14, hi1, hi2, hi3, hi4, hsf]
      refine AW.draw tok hmix ⟨[135], [], [], false⟩ (by kernel_rfl) (Has.of_sub (List.nil_sublist _)) ?_
      have hatF : atF (q2 ++ [x]) tq.1 tq.2 = .raw (.int .i64 (((((q2 ++ [x]).map (·.1)).idxOf tq : Nat) : Int) + 1)) := by unfold atF; rw [hat3]
      simp -implicitDefEqProofs only [go_sem, not_false_eq_true, hget_skip, hset_skip, List.append_assoc, rowsH_names, hnf, hng, hn3, hn4, hn7, hnO, hget_rowsE hI, hget_rows hI, hset_rowsE hI, hset_rows hI, outC_get, outC_length, mxR_get, mxR_length, mxR_set, mxR_set0, hne2, hne3, hne4, hne7, hneO, hnX, hnS, hneX, hneS, qc_div, hnY, hneY, hn14, hne14, hi1, hi2, hi3, hi4, hatF, hw1]
      refine opK_lit tok T44 rfl T3 (by decide) (by simp -implicitDefEqProofs only [go_sem, zrep, List.flatten_cons, List.flatten_nil]; rfl) ?_
      simp -implicitDefEqProofs only [go_sem, not_false_eq_true, hget_skip, hset_skip, List.append_assoc, rowsH_names, hnf, hng, hn3, hn4, hn7, hnO, hget_rowsE hI, hget_rows hI, hset_rowsE hI, hset_rows hI, outC_get, outC_length, mxR_get, mxR_length, mxR_set, mxR_set0, hne2, hne3, hne4, hne7, hneO, hnX, hnS, hneX, hneS, qc_div, hnY, hneY, hn14, hne14]
      refine opK_append tok rfl rfl (by simp -implicitDefEqProofs only [go_sem, not_false_eq_true, hget_skip, hset_skip, List.append_assoc, rowsH_names, hnf, hng, hn3, hn4, hn7, hnO, hget_rowsE hI, hget_rows hI, hset_rowsE hI, hset_rows hI, outC_get, outC_length, mxR_get, mxR_length, mxR_set, mxR_set0, hne2, hne3, hne4, hne7, hneO, hnX, hnS, hneX, hneS, qc_div, hnY, hneY, hn14, hne14]; rfl) rfl T44 rfl T3 rfl (by decide) (by simp only [List.length_map, htl, Nat.div_one, List.length_cons, List.length_nil]; omega) fun v5 => ?_
      simp -implicitDefEqProofs only [go_sem, not_false_eq_true, hget_skip, hset_skip, List.append_assoc, rowsH_names, hnf, hng, hn3, hn4, hn7, hnO, hget_rowsE hI, hget_rows hI, hset_rowsE hI, hset_rows hI, outC_get, outC_length, mxR_get, mxR_length, mxR_set, mxR_set0, hne2, hne3, hne4, hne7, hneO, hnX, hnS, hneX, hneS, qc_div, hnY, hneY, hn14, hne14, hrow, wrap_up han (by omega)]
      refine ⟨(a + 1, q2 ++ [x], v3, v5), ⟨han, hq3⟩, by simp only; omega, by simp -implicitDefEqProofs only [go_sem], ?_⟩
      have := hnext (q2 ++ [x]) v3 v5 (((rowT f g n keep L p).take (a + 1)).map iA) (.cells 34 [.raw (.int .i64 tq.1), .raw (.int .i64 tq.2)])
      simpa -implicitDefEqProofs only [List.cons_append, List.nil_append, List.append_assoc] using this
end Go.Proofs.Ytebbiciepbbhkaa
/- Chapter 12, part Tr: the law FaceTogether. -/
namespace Go.Proofs.Ytebbiciepbbhkaa
open Go Go.NS

theorem togF_small {f g : Fa} {n : Nat} (hf : f.Val n) (hg : g.Val n) (hfs : f.Small) (keep : Pr → Bool) : (togF f g n keep).Small := by
  have h1 : (togL f g n keep).length ≤ f.sts.length * g.sts.length := in_length (foundL_nodup f g n (ownS f g) keep) (foundL_in hf hg)
  have h4 : f.sts.length * g.sts.length ≤ 500 * 500 := Nat.mul_le_mul hf.few hg.few
  have h8 := hf.n8
  refine ⟨hfs.a, ?_, ?_⟩
  · simp only [togF, List.length_map]; omega
  · intro l hl
    simp only [togF, List.mem_map] at hl
    obtain ⟨x, _, rfl⟩ := hl
    simp only [rowT, List.length_map, List.length_range]; omega
theorem zero_small : Fa.zero.Small := ⟨by decide, by decide, by simp [Fa.zero]⟩
theorem turn_small {f : Fa} (hf : f.Small) : f.turn.Small := ⟨hf.a, hf.s, hf.r⟩
theorem beq_self (f : Fa) : f.beq f = true := (Fa.beq_iff f f).2 rfl


set_option maxRecDepth 4000 in
set_option maxHeartbeats 4000000 in
theorem FaceTogether_ok (f g : Fa) (hf : f.Small) (hg : g.Small) : Fp Try.prog 4 [f.av, g.av] (abool true) := by
  have h120 : decide ((120 : Int) = 0) = false := by decide
  refine Fp.of_vc tok Try.func4 rfl (by decide) ?_
  simp -implicitDefEqProofs only [go_sem, Try.ntmps4, Fa.av, Fa.cells]
  refine newK_intro fun n2 hn2 => ?_
  try simp -implicitDefEqProofs only [hset, List.map_append, List.map_cons, List.map_nil, List.cons_append, List.nil_append, List.mem_cons, List.mem_append, List.not_mem_nil, or_false, not_or] at hn2
  simp -implicitDefEqProofs only [go_sem]
  refine newK_intro fun n3 hn3 => ?_
  try simp -implicitDefEqProofs only [hset, List.map_append, List.map_cons, List.map_nil, List.cons_append, List.nil_append, List.mem_cons, List.mem_append, List.not_mem_nil, or_false, not_or] at hn3
  simp -implicitDefEqProofs only [go_sem, hn3, not_false_eq_true]
  refine opK_pure (light_ok f hf) rfl (Sub.of_eq (by first | rfl | simp -implicitDefEqProofs only [go_sem])) ?_
  simp -implicitDefEqProofs only [go_sem, hn3, not_false_eq_true]
  cases hL1 : lightB f with
  | false =>
    simp -implicitDefEqProofs only [go_sem, hn3, not_false_eq_true]
    refine opK_pure (awake_ok) rfl (Sub.of_eq (by first | rfl | simp -implicitDefEqProofs only [go_sem])) ?_
    simp -implicitDefEqProofs only [go_sem, hn3, not_false_eq_true]
    refine fnPost_ret tok ?_
    simp -implicitDefEqProofs only [go_sem, Try.results4]
  | true =>
  simp -implicitDefEqProofs only [go_sem, hn3, not_false_eq_true]
  refine opK_pure (light_ok g hg) rfl (Sub.of_eq (by first | rfl | simp -implicitDefEqProofs only [go_sem])) ?_
  simp -implicitDefEqProofs only [go_sem, hn3, not_false_eq_true]
  cases hL2 : lightB g with
  | false =>
    simp -implicitDefEqProofs only [go_sem, hn3, not_false_eq_true]
    refine opK_pure (awake_ok) rfl (Sub.of_eq (by first | rfl | simp -implicitDefEqProofs only [go_sem])) ?_
    simp -implicitDefEqProofs only [go_sem, hn3, not_false_eq_true]
    refine fnPost_ret tok ?_
    simp -implicitDefEqProofs only [go_sem, Try.results4]
  | true =>
  simp -implicitDefEqProofs only [go_sem, hn3, not_false_eq_true]
  refine AW.draw tok hmix ⟨[], [], [], false⟩ (by kernel_rfl) (Has.of_sub (List.nil_sublist _)) ?_
  simp -implicitDefEqProofs only [go_sem, hn3, not_false_eq_true]
  refine opK_pure (Paired_ok f g) rfl (Sub.of_eq (by first | rfl | simp -implicitDefEqProofs only [go_sem])) ?_
  simp -implicitDefEqProofs only [go_sem, hn3, not_false_eq_true]
  refine opK_pure (fault_ok f g (decide (andI f.out g.out = 0)) hf hg) rfl (Sub.of_eq (by first | rfl | simp -implicitDefEqProofs only [go_sem])) ?_
  simp -implicitDefEqProofs only [go_sem, hn3, not_false_eq_true, faultE_eq]
  refine opK_pure (IsR_ok f hf) rfl (Sub.of_eq (by first | rfl | simp -implicitDefEqProofs only [go_sem])) ?_
  simp -implicitDefEqProofs only [go_sem, hn3, not_false_eq_true, iA]
  refine newK_intro fun n7 hn7 => ?_
  try simp -implicitDefEqProofs only [hset, List.map_append, List.map_cons, List.map_nil, List.cons_append, List.nil_append, List.mem_cons, List.mem_append, List.not_mem_nil, or_false, not_or] at hn7
  simp -implicitDefEqProofs only [go_sem, hn3, not_false_eq_true, hn7]
  refine newK_intro fun n8 hn8 => ?_
  try simp -implicitDefEqProofs only [hset, List.map_append, List.map_cons, List.map_nil, List.cons_append, List.nil_append, List.mem_cons, List.mem_append, List.not_mem_nil, or_false, not_or] at hn8
  simp -implicitDefEqProofs only [go_sem, hn3, not_false_eq_true, hn7, hn8]
  obtain ⟨tp, htp⟩ : ∃ tp : List (Int × Int), tp = (togP f g).map fun x => ((x.1.1 : Int), (x.1.2 : Int)) := ⟨_, rfl⟩
  have hqp : qc (togP f g) = pc tp := by rw [htp]; rfl
  by_cases c0 : pairedE f g = 0
  rotate_left
  · have he : togE f g = pairedE f g := by simp only [togE, if_neg c0]
    have hR : togR f g = Fa.zero := by simp only [togR, he, if_neg c0]
    have hP : togP f g = [] := by simp only [togP, he, if_neg c0]
    have htS : (togR f g).Small := hR ▸ zero_small
    have hpl : tp.length * 16 ≤ 140737488351232 := by rw [htp, hP]; decide
    have hp0 : tp = [] := by rw [htp, hP]; rfl
    cases hvB : f.validB with
    | true =>
      have hoF : otherF f = f.turn := by simp [otherF, hvB]
      have hoE : otherE f = 0 := by simp [otherE, hvB]
      have hoS : (otherF f).Small := hoF ▸ turn_small hf
      simp -implicitDefEqProofs only [go_sem, hn3, not_false_eq_true, hn7, hn8]
      refine opK_pure (OtherR_ok f hf) rfl (Sub.of_eq (by first | rfl | simp -implicitDefEqProofs only [go_sem])) ?_
      simp -implicitDefEqProofs only [go_sem, hn3, not_false_eq_true, hn7, hn8, c0, decide_false, Fa.av, Fa.cells, iA]
      refine AW.draw tok hmix ⟨[], [], [], false⟩ (by kernel_rfl) (Has.of_sub (List.nil_sublist _)) ?_
      simp -implicitDefEqProofs only [go_sem, hn3, not_false_eq_true, hn7, hn8]
      refine opK_pure (Copy_ok f hf) rfl (Sub.of_eq (by first | rfl | simp -implicitDefEqProofs only [go_sem])) ?_
      simp -implicitDefEqProofs only [go_sem, hn3, not_false_eq_true, hn7, hn8]
      refine opK_pure (Copy_ok g hg) rfl (Sub.of_eq (by first | rfl | simp -implicitDefEqProofs only [go_sem])) ?_
      simp -implicitDefEqProofs only [go_sem, hn3, not_false_eq_true, hn7, hn8]
      refine opK_pure (Together_ok f g hf hg) rfl (Sub.of_eq (by first | rfl | simp -implicitDefEqProofs only [go_sem])) ?_
      simp -implicitDefEqProofs only [go_sem, hn3, not_false_eq_true, hn7, hn8, Fa.av, Fa.cells, iA]
      refine newK_intro fun n10 hn10 => ?_
      try simp -implicitDefEqProofs only [hset, List.map_append, List.map_cons, List.map_nil, List.cons_append, List.nil_append, List.mem_cons, List.mem_append, List.not_mem_nil, or_false, not_or] at hn10
      simp -implicitDefEqProofs only [go_sem, hn3, not_false_eq_true, hn7, hn8, hn10, Fa.av, Fa.cells, iA]
      refine opK_pure (Copy_ok f hf) rfl (Sub.of_eq (by first | rfl | simp -implicitDefEqProofs only [go_sem])) ?_
      simp -implicitDefEqProofs only [go_sem, hn3, not_false_eq_true, hn7, hn8, hn10, Fa.av, Fa.cells, iA]
      refine opK_pure (Other_ok f hf) rfl (Sub.of_eq (by first | rfl | simp -implicitDefEqProofs only [go_sem])) ?_
      simp -implicitDefEqProofs only [go_sem, hn3, not_false_eq_true, hn7, hn8, hn10, Fa.av, Fa.cells, iA]
      refine newK_intro fun n13 hn13 => ?_
      try simp -implicitDefEqProofs only [hset, List.map_append, List.map_cons, List.map_nil, List.cons_append, List.nil_append, List.mem_cons, List.mem_append, List.not_mem_nil, or_false, not_or] at hn13
      simp -implicitDefEqProofs only [go_sem, hn3, not_false_eq_true, hn7, hn8, hn10, hn13, hoE, h120, decide_true]
      refine opK_pure (Same_ok (otherF f) (otherF f) hoS hoS) rfl (Sub.of_eq (by rw [hoF]; rfl)) ?_
      simp -implicitDefEqProofs only [go_sem, hn3, not_false_eq_true, hn7, hn8, hn10, hn13, beq_self, he, decide_true]
      refine opK_pure (Same_ok (togR f g) (togR f g) htS htS) rfl (Sub.of_les (by rw [hR]; exact Les.cons (Le.refl _) (Les.cons le_zero Les.nil))) ?_
      simp -implicitDefEqProofs only [go_sem, hn3, not_false_eq_true, hn7, hn8, hn10, hn13, beq_self]
      refine opK_pure (SamePairs_ok tp tp hpl hpl) rfl (Sub.of_les (by rw [hqp, hp0]; exact Les.cons (Le.refl _) (Les.cons (Le.nil 2) Les.nil))) ?_
      simp -implicitDefEqProofs only [go_sem, hn3, not_false_eq_true, hn7, hn8, hn10, hn13, decide_true]
      refine opK_pure (awake_ok) rfl (Sub.of_eq (by first | rfl | simp -implicitDefEqProofs only [go_sem])) ?_
      simp -implicitDefEqProofs only [go_sem]
      refine fnPost_ret tok ?_
      simp -implicitDefEqProofs only [go_sem, Try.results4]
    | false =>
      have hoF : otherF f = Fa.zero := by simp [otherF, hvB]
      have hoE : otherE f = 120 := by simp [otherE, hvB]
      have hoS : (otherF f).Small := hoF ▸ zero_small
      simp -implicitDefEqProofs only [go_sem, hn3, not_false_eq_true, hn7, hn8, c0, decide_false]
      refine AW.draw tok hmix ⟨[], [], [], false⟩ (by kernel_rfl) (Has.of_sub (List.nil_sublist _)) ?_
      simp -implicitDefEqProofs only [go_sem, hn3, not_false_eq_true, hn7, hn8]
      refine opK_pure (Copy_ok f hf) rfl (Sub.of_eq (by first | rfl | simp -implicitDefEqProofs only [go_sem])) ?_
      simp -implicitDefEqProofs only [go_sem, hn3, not_false_eq_true, hn7, hn8]
      refine opK_pure (Copy_ok g hg) rfl (Sub.of_eq (by first | rfl | simp -implicitDefEqProofs only [go_sem])) ?_
      simp -implicitDefEqProofs only [go_sem, hn3, not_false_eq_true, hn7, hn8]
      refine opK_pure (Together_ok f g hf hg) rfl (Sub.of_eq (by first | rfl | simp -implicitDefEqProofs only [go_sem])) ?_
      simp -implicitDefEqProofs only [go_sem, hn3, not_false_eq_true, hn7, hn8, Fa.av, Fa.cells, iA]
      refine newK_intro fun n10 hn10 => ?_
      try simp -implicitDefEqProofs only [hset, List.map_append, List.map_cons, List.map_nil, List.cons_append, List.nil_append, List.mem_cons, List.mem_append, List.not_mem_nil, or_false, not_or] at hn10
      simp -implicitDefEqProofs only [go_sem, hn3, not_false_eq_true, hn7, hn8, hn10, Fa.av, Fa.cells, iA]
      refine opK_pure (Copy_ok f hf) rfl (Sub.of_eq (by first | rfl | simp -implicitDefEqProofs only [go_sem])) ?_
      simp -implicitDefEqProofs only [go_sem, hn3, not_false_eq_true, hn7, hn8, hn10, Fa.av, Fa.cells, iA]
      refine opK_pure (Other_ok f hf) rfl (Sub.of_eq (by first | rfl | simp -implicitDefEqProofs only [go_sem])) ?_
      simp -implicitDefEqProofs only [go_sem, hn3, not_false_eq_true, hn7, hn8, hn10, Fa.av, Fa.cells, iA]
      refine newK_intro fun n13 hn13 => ?_
      try simp -implicitDefEqProofs only [hset, List.map_append, List.map_cons, List.map_nil, List.cons_append, List.nil_append, List.mem_cons, List.mem_append, List.not_mem_nil, or_false, not_or] at hn13
      simp -implicitDefEqProofs only [go_sem, hn3, not_false_eq_true, hn7, hn8, hn10, hn13, hoE, h120, decide_true]
      refine opK_pure (Same_ok (otherF f) (otherF f) hoS hoS) rfl (Sub.of_les (by rw [hoF]; exact Les.cons (Le.refl _) (Les.cons le_zero Les.nil))) ?_
      simp -implicitDefEqProofs only [go_sem, hn3, not_false_eq_true, hn7, hn8, hn10, hn13, beq_self, he, decide_true]
      refine opK_pure (Same_ok (togR f g) (togR f g) htS htS) rfl (Sub.of_les (by rw [hR]; exact Les.cons (Le.refl _) (Les.cons le_zero Les.nil))) ?_
      simp -implicitDefEqProofs only [go_sem, hn3, not_false_eq_true, hn7, hn8, hn10, hn13, beq_self]
      refine opK_pure (SamePairs_ok tp tp hpl hpl) rfl (Sub.of_les (by rw [hqp, hp0]; exact Les.cons (Le.refl _) (Les.cons (Le.nil 2) Les.nil))) ?_
      simp -implicitDefEqProofs only [go_sem, hn3, not_false_eq_true, hn7, hn8, hn10, hn13, decide_true]
      refine opK_pure (awake_ok) rfl (Sub.of_eq (by first | rfl | simp -implicitDefEqProofs only [go_sem])) ?_
      simp -implicitDefEqProofs only [go_sem]
      refine fnPost_ret tok ?_
      simp -implicitDefEqProofs only [go_sem, Try.results4]
  obtain ⟨h1, h2⟩ := paired_val c0
  obtain ⟨hv, hw, _⟩ := fine_val h1
  have hvB : f.validB = true := by
    unfold fineE at h1
    split at h1
    · rename_i h; simp only [Bool.and_eq_true] at h; exact h.1
    · omega
  have hoF : otherF f = f.turn := by simp [otherF, hvB]
  have hoE : otherE f = 0 := by simp [otherE, hvB]
  have hoS : (otherF f).Small := hoF ▸ turn_small hf
  simp -implicitDefEqProofs only [go_sem, hn3, not_false_eq_true, hn7, hn8, hvB]
  refine opK_pure (OtherR_ok f hf) rfl (Sub.of_eq (by first | rfl | simp -implicitDefEqProofs only [go_sem])) ?_
  simp -implicitDefEqProofs only [go_sem, hn3, not_false_eq_true, hn7, hn8, c0, decide_true, Fa.av, Fa.cells, iA]
  refine opK_pure (FitsR_ok f g hv hw) rfl (Sub.of_eq (by first | rfl | simp -implicitDefEqProofs only [go_sem])) ?_
  have hlw := lost_way hv hw
  cases hl : lostD f g f.acts.length (0, 0) with
  | true =>
    have hw2 := hlw.2 hl
    have hD : fitsD f g f.acts.length = ((wayW f g f.acts.length).length : Int) := by simp [fitsD, hw2]
    have hge : ((wayW f g f.acts.length).length : Int) ≥ 0 := by omega
    have he : togE f g = 3 := by simp only [togE, if_pos c0, hl, if_true]
    have hR : togR f g = Fa.zero := by simp only [togR, he]; rfl
    have hP : togP f g = [] := by simp only [togP, he]; rfl
    have htS : (togR f g).Small := hR ▸ zero_small
    have hpl : tp.length * 16 ≤ 140737488351232 := by rw [htp, hP]; decide
    have hp0 : tp = [] := by rw [htp, hP]; rfl
    have h30 : decide ((3 : Int) = 0) = false := by decide
    simp -implicitDefEqProofs only [go_sem, hn3, not_false_eq_true, hn7, hn8, hD, hge, decide_true, iA, h30]
    refine AW.draw tok hmix ⟨[], [], [], false⟩ (by kernel_rfl) (Has.of_sub (List.nil_sublist _)) ?_
    simp -implicitDefEqProofs only [go_sem, hn3, not_false_eq_true, hn7, hn8]
    refine opK_pure (Copy_ok f hf) rfl (Sub.of_eq (by first | rfl | simp -implicitDefEqProofs only [go_sem])) ?_
    simp -implicitDefEqProofs only [go_sem, hn3, not_false_eq_true, hn7, hn8]
    refine opK_pure (Copy_ok g hg) rfl (Sub.of_eq (by first | rfl | simp -implicitDefEqProofs only [go_sem])) ?_
    simp -implicitDefEqProofs only [go_sem, hn3, not_false_eq_true, hn7, hn8]
    refine opK_pure (Together_ok f g hf hg) rfl (Sub.of_eq (by first | rfl | simp -implicitDefEqProofs only [go_sem])) ?_
    simp -implicitDefEqProofs only [go_sem, hn3, not_false_eq_true, hn7, hn8, Fa.av, Fa.cells, iA]
    refine newK_intro fun n10 hn10 => ?_
    try simp -implicitDefEqProofs only [hset, List.map_append, List.map_cons, List.map_nil, List.cons_append, List.nil_append, List.mem_cons, List.mem_append, List.not_mem_nil, or_false, not_or] at hn10
    simp -implicitDefEqProofs only [go_sem, hn3, not_false_eq_true, hn7, hn8, hn10, Fa.av, Fa.cells, iA]
    refine opK_pure (Copy_ok f hf) rfl (Sub.of_eq (by first | rfl | simp -implicitDefEqProofs only [go_sem])) ?_
    simp -implicitDefEqProofs only [go_sem, hn3, not_false_eq_true, hn7, hn8, hn10, Fa.av, Fa.cells, iA]
    refine opK_pure (Other_ok f hf) rfl (Sub.of_eq (by first | rfl | simp -implicitDefEqProofs only [go_sem])) ?_
    simp -implicitDefEqProofs only [go_sem, hn3, not_false_eq_true, hn7, hn8, hn10, Fa.av, Fa.cells, iA]
    refine newK_intro fun n13 hn13 => ?_
    try simp -implicitDefEqProofs only [hset, List.map_append, List.map_cons, List.map_nil, List.cons_append, List.nil_append, List.mem_cons, List.mem_append, List.not_mem_nil, or_false, not_or] at hn13
    simp -implicitDefEqProofs only [go_sem, hn3, not_false_eq_true, hn7, hn8, hn10, hn13, hoE, h120, decide_true]
    refine opK_pure (Same_ok (otherF f) (otherF f) hoS hoS) rfl (Sub.of_eq (by rw [hoF]; rfl)) ?_
    simp -implicitDefEqProofs only [go_sem, hn3, not_false_eq_true, hn7, hn8, hn10, hn13, beq_self, he, decide_true]
    refine opK_pure (Same_ok (togR f g) (togR f g) htS htS) rfl (Sub.of_les (by rw [hR]; exact Les.cons (Le.refl _) (Les.cons le_zero Les.nil))) ?_
    simp -implicitDefEqProofs only [go_sem, hn3, not_false_eq_true, hn7, hn8, hn10, hn13, beq_self]
    refine opK_pure (SamePairs_ok tp tp hpl hpl) rfl (Sub.of_les (by rw [hqp, hp0]; exact Les.cons (Le.refl _) (Les.cons (Le.nil 2) Les.nil))) ?_
    simp -implicitDefEqProofs only [go_sem, hn3, not_false_eq_true, hn7, hn8, hn10, hn13, decide_true]
    refine opK_pure (awake_ok) rfl (Sub.of_eq (by first | rfl | simp -implicitDefEqProofs only [go_sem])) ?_
    simp -implicitDefEqProofs only [go_sem]
    refine fnPost_ret tok ?_
    simp -implicitDefEqProofs only [go_sem, Try.results4]
  | false =>
  have hw2 : ¬ (wayI f g f.acts.length < (wayL f g f.acts.length).length) := fun h => by rw [hlw.1 h] at hl; cases hl
  have hD : fitsD f g f.acts.length = -1 := by simp [fitsD, hw2]
  have hge : decide ((-1 : Int) ≥ 0) = false := by decide
  simp -implicitDefEqProofs only [go_sem, hn3, not_false_eq_true, hn7, hn8, hD, hge, iA, c0, decide_true]
  refine opK_pure (TogetherR_ok f g hv hw hf) rfl (Sub.of_eq (by first | rfl | simp -implicitDefEqProofs only [go_sem])) ?_
  have hln : (togF f g f.acts.length (keepD f g f.acts.length)).sts.length = (togL f g f.acts.length (keepD f g f.acts.length)).length := by simp [togF]
  have hll : (togL f g f.acts.length (keepD f g f.acts.length)).length * 16 ≤ 140737488351232 := by
    have h1 : (togL f g f.acts.length (keepD f g f.acts.length)).length ≤ f.sts.length * g.sts.length := in_length (foundL_nodup f g f.acts.length (ownS f g) (keepD f g f.acts.length)) (foundL_in hv hw)
    have h4 : f.sts.length * g.sts.length ≤ 500 * 500 := Nat.mul_le_mul hv.few hw.few
    omega
  by_cases h5 : 500 < (togL f g f.acts.length (keepD f g f.acts.length)).length
  · have he : togE f g = 2 := by simp only [togE, if_pos c0, hl, if_pos h5]; rfl
    have hR : togR f g = Fa.zero := by simp only [togR, he]; rfl
    have hP : togP f g = [] := by simp only [togP, he]; rfl
    have htS : (togR f g).Small := hR ▸ zero_small
    have hpl : tp.length * 16 ≤ 140737488351232 := by rw [htp, hP]; decide
    have hp0 : tp = [] := by rw [htp, hP]; rfl
    have hgt : (((togL f g f.acts.length (keepD f g f.acts.length)).length : Nat) : Int) > 500 := by omega
    simp -implicitDefEqProofs only [go_sem, hn3, not_false_eq_true, hn7, hn8, Fa.av, Fa.cells, iA, hln, hgt, decide_true]
    refine AW.draw tok hmix ⟨[], [], [], false⟩ (by kernel_rfl) (Has.of_sub (List.nil_sublist _)) ?_
    simp -implicitDefEqProofs only [go_sem, hn3, not_false_eq_true, hn7, hn8]
    refine opK_pure (Copy_ok f hf) rfl (Sub.of_eq (by first | rfl | simp -implicitDefEqProofs only [go_sem])) ?_
    simp -implicitDefEqProofs only [go_sem, hn3, not_false_eq_true, hn7, hn8]
    refine opK_pure (Copy_ok g hg) rfl (Sub.of_eq (by first | rfl | simp -implicitDefEqProofs only [go_sem])) ?_
    simp -implicitDefEqProofs only [go_sem, hn3, not_false_eq_true, hn7, hn8]
    refine opK_pure (Together_ok f g hf hg) rfl (Sub.of_eq (by first | rfl | simp -implicitDefEqProofs only [go_sem])) ?_
    simp -implicitDefEqProofs only [go_sem, hn3, not_false_eq_true, hn7, hn8, Fa.av, Fa.cells, iA]
    refine newK_intro fun n10 hn10 => ?_
    try simp -implicitDefEqProofs only [hset, List.map_append, List.map_cons, List.map_nil, List.cons_append, List.nil_append, List.mem_cons, List.mem_append, List.not_mem_nil, or_false, not_or] at hn10
    simp -implicitDefEqProofs only [go_sem, hn3, not_false_eq_true, hn7, hn8, hn10, Fa.av, Fa.cells, iA]
    refine opK_pure (Copy_ok f hf) rfl (Sub.of_eq (by first | rfl | simp -implicitDefEqProofs only [go_sem])) ?_
    simp -implicitDefEqProofs only [go_sem, hn3, not_false_eq_true, hn7, hn8, hn10, Fa.av, Fa.cells, iA]
    refine opK_pure (Other_ok f hf) rfl (Sub.of_eq (by first | rfl | simp -implicitDefEqProofs only [go_sem])) ?_
    simp -implicitDefEqProofs only [go_sem, hn3, not_false_eq_true, hn7, hn8, hn10, Fa.av, Fa.cells, iA]
    refine newK_intro fun n13 hn13 => ?_
    try simp -implicitDefEqProofs only [hset, List.map_append, List.map_cons, List.map_nil, List.cons_append, List.nil_append, List.mem_cons, List.mem_append, List.not_mem_nil, or_false, not_or] at hn13
    simp -implicitDefEqProofs only [go_sem, hn3, not_false_eq_true, hn7, hn8, hn10, hn13, hoE, h120, decide_true]
    refine opK_pure (Same_ok (otherF f) (otherF f) hoS hoS) rfl (Sub.of_eq (by rw [hoF]; rfl)) ?_
    simp -implicitDefEqProofs only [go_sem, hn3, not_false_eq_true, hn7, hn8, hn10, hn13, beq_self, he, decide_true]
    refine opK_pure (Same_ok (togR f g) (togR f g) htS htS) rfl (Sub.of_les (by rw [hR]; exact Les.cons (Le.refl _) (Les.cons le_zero Les.nil))) ?_
    simp -implicitDefEqProofs only [go_sem, hn3, not_false_eq_true, hn7, hn8, hn10, hn13, beq_self]
    refine opK_pure (SamePairs_ok tp tp hpl hpl) rfl (Sub.of_les (by rw [hqp, hp0]; exact Les.cons (Le.refl _) (Les.cons (Le.nil 2) Les.nil))) ?_
    simp -implicitDefEqProofs only [go_sem, hn3, not_false_eq_true, hn7, hn8, hn10, hn13, decide_true]
    refine opK_pure (awake_ok) rfl (Sub.of_eq (by first | rfl | simp -implicitDefEqProofs only [go_sem])) ?_
    simp -implicitDefEqProofs only [go_sem]
    refine fnPost_ret tok ?_
    simp -implicitDefEqProofs only [go_sem, Try.results4]
  · have he : togE f g = 0 := by simp only [togE, if_pos c0, hl, if_neg h5]; rfl
    have hR : togR f g = togF f g f.acts.length (keepD f g f.acts.length) := by simp only [togR, he, if_true]
    have hP : togP f g = togL f g f.acts.length (keepD f g f.acts.length) := by simp only [togP, he, if_true]
    have htS : (togR f g).Small := hR ▸ togF_small hv hw hf _
    have hpl : tp.length * 16 ≤ 140737488351232 := by rw [htp, hP, List.length_map]; exact hll
    have hgt : ¬ ((((togL f g f.acts.length (keepD f g f.acts.length)).length : Nat) : Int) > 500) := by omega
    simp -implicitDefEqProofs only [go_sem, hn3, not_false_eq_true, hn7, hn8, Fa.av, Fa.cells, iA, hln, hgt, decide_false]
    refine AW.draw tok hmix ⟨[], [], [], false⟩ (by kernel_rfl) (Has.of_sub (List.nil_sublist _)) ?_
    simp -implicitDefEqProofs only [go_sem, hn3, not_false_eq_true, hn7, hn8]
    refine opK_pure (Copy_ok f hf) rfl (Sub.of_eq (by first | rfl | simp -implicitDefEqProofs only [go_sem])) ?_
    simp -implicitDefEqProofs only [go_sem, hn3, not_false_eq_true, hn7, hn8]
    refine opK_pure (Copy_ok g hg) rfl (Sub.of_eq (by first | rfl | simp -implicitDefEqProofs only [go_sem])) ?_
    simp -implicitDefEqProofs only [go_sem, hn3, not_false_eq_true, hn7, hn8]
    refine opK_pure (Together_ok f g hf hg) rfl (Sub.of_eq (by first | rfl | simp -implicitDefEqProofs only [go_sem])) ?_
    simp -implicitDefEqProofs only [go_sem, hn3, not_false_eq_true, hn7, hn8, Fa.av, Fa.cells, iA]
    refine newK_intro fun n10 hn10 => ?_
    try simp -implicitDefEqProofs only [hset, List.map_append, List.map_cons, List.map_nil, List.cons_append, List.nil_append, List.mem_cons, List.mem_append, List.not_mem_nil, or_false, not_or] at hn10
    simp -implicitDefEqProofs only [go_sem, hn3, not_false_eq_true, hn7, hn8, hn10, Fa.av, Fa.cells, iA]
    refine opK_pure (Copy_ok f hf) rfl (Sub.of_eq (by first | rfl | simp -implicitDefEqProofs only [go_sem])) ?_
    simp -implicitDefEqProofs only [go_sem, hn3, not_false_eq_true, hn7, hn8, hn10, Fa.av, Fa.cells, iA]
    refine opK_pure (Other_ok f hf) rfl (Sub.of_eq (by first | rfl | simp -implicitDefEqProofs only [go_sem])) ?_
    simp -implicitDefEqProofs only [go_sem, hn3, not_false_eq_true, hn7, hn8, hn10, Fa.av, Fa.cells, iA]
    refine newK_intro fun n13 hn13 => ?_
    try simp -implicitDefEqProofs only [hset, List.map_append, List.map_cons, List.map_nil, List.cons_append, List.nil_append, List.mem_cons, List.mem_append, List.not_mem_nil, or_false, not_or] at hn13
    simp -implicitDefEqProofs only [go_sem, hn3, not_false_eq_true, hn7, hn8, hn10, hn13, hoE, h120, decide_true]
    refine opK_pure (Same_ok (otherF f) (otherF f) hoS hoS) rfl (Sub.of_eq (by rw [hoF]; rfl)) ?_
    simp -implicitDefEqProofs only [go_sem, hn3, not_false_eq_true, hn7, hn8, hn10, hn13, beq_self, he, decide_true]
    refine opK_pure (Same_ok (togR f g) (togR f g) htS htS) rfl (Sub.of_eq (by rw [hR]; rfl)) ?_
    simp -implicitDefEqProofs only [go_sem, hn3, not_false_eq_true, hn7, hn8, hn10, hn13, beq_self]
    refine opK_pure (SamePairs_ok tp tp hpl hpl) rfl (Sub.of_eq (by rw [← hP, hqp]; rfl)) ?_
    simp -implicitDefEqProofs only [go_sem, hn3, not_false_eq_true, hn7, hn8, hn10, hn13, decide_true]
    refine opK_pure (awake_ok) rfl (Sub.of_eq (by first | rfl | simp -implicitDefEqProofs only [go_sem])) ?_
    simp -implicitDefEqProofs only [go_sem]
    refine fnPost_ret tok ?_
    simp -implicitDefEqProofs only [go_sem, Try.results4]

theorem FaceTogether_fc (xs : List AV) (h : ShAs TT0 [25, 25] xs) : Fc Try.prog 4 xs [] fun x _ => x = abool true := by
  cases h with
  | cons h1 h =>
  cases h with
  | cons h2 h =>
  cases h
  obtain ⟨f, hf, rfl⟩ := shA_face h1
  obtain ⟨g, hg, rfl⟩ := shA_face h2
  exact FaceTogether_ok f g hf hg
end Go.Proofs.Ytebbiciepbbhkaa
/- Chapter 12, part Tv: both together are valid; worlds of a face: plain part. -/
namespace Go.Proofs.Ytebbiciepbbhkaa
open Go Go.NS

/-- A face is valid, out of its parts. -/
theorem valid_of {f : Fa} {n i o : Nat} (ha : actsB f.acts = true) (hn : f.acts.length = n) (hi : f.inn = (i : Int)) (ho : f.out = (o : Int)) (hil : i < 2 ^ n) (hol : o < 2 ^ n) (hd : i &&& o = 0) (h1 : 1 ≤ f.sts.length) (h5 : f.sts.length ≤ 500)
    (hr : ∀ r ∈ f.sts, r.length = n ∧ ∀ a, a < n → -1 ≤ r.getD a 0 ∧ r.getD a 0 < f.sts.length ∧ (0 ≤ r.getD a 0 → (i ||| o).testBit a = true)) : f.validB = true := by
  have h8 : n ≤ 8 := hn ▸ actsB_le ha
  have hp := pow8 h8
  have hor : orI f.inn f.out = ((i ||| o : Nat) : Int) := by rw [hi, ho]; exact orI_nat (by omega) (by omega)
  have horl := Nat.or_lt_two_pow hil hol
  simp only [Fa.validB, Fa.headB, Bool.and_eq_true, decide_eq_true_eq, List.all_eq_true]
  refine ⟨⟨⟨⟨⟨⟨ha, ?_⟩, ?_⟩, ?_⟩, h1⟩, h5⟩, fun r hm => ?_⟩
  · rw [hn, hi]; simp only [setI, Bool.and_eq_true, decide_eq_true_eq]; omega
  · rw [hn, ho]; simp only [setI, Bool.and_eq_true, decide_eq_true_eq]; omega
  · unfold andI; rw [hi, ho, bit2_and _ _ (by omega) (by omega), hd]; rfl
  · obtain ⟨hl, hc⟩ := hr r hm
    simp only [Fa.rowB, Bool.and_eq_true, decide_eq_true_eq, List.all_eq_true, List.mem_range]
    refine ⟨by rw [hl, hn], fun a ha2 => ?_⟩
    obtain ⟨c1, c2, c3⟩ := hc a (by omega)
    simp only [cellB, Bool.and_eq_true, Bool.or_eq_true, decide_eq_true_eq]
    refine ⟨⟨c1, c2⟩, ?_⟩
    by_cases h : r.getD a 0 < 0
    · exact .inl h
    · refine .inr ?_
      rw [hor, hasI_nat _ _ (by omega) (by omega)]
      exact c3 (by omega)

theorem rowT_at {f g : Fa} {n a : Nat} {keep : Pr → Bool} {L : List It} {p : Pr} (ha : a < n) : (rowT f g n keep L p).getD a 0 = match stepN f g p a with
    | some q => if keep q then (((L.map (·.1)).idxOf q : Nat) : Int) else -1
    | none => -1 := by
  unfold rowT
  rw [List.getD, List.getElem?_map, List.getElem?_range ha]
  rfl

/-- The bits of what both send and accept. -/
theorem tog_bits (f g : Fa) : nAndNot (f.iN ||| g.iN) (f.oN ||| g.oN) ||| (f.oN ||| g.oN) = ownS f g := by
  apply Nat.eq_of_testBit_eq
  intro a
  simp only [ownS, Nat.testBit_or, nAndNot_bit]
  cases f.iN.testBit a <;> cases g.iN.testBit a <;> cases f.oN.testBit a <;> cases g.oN.testBit a <;> rfl
theorem tog_dis (f g : Fa) : nAndNot (f.iN ||| g.iN) (f.oN ||| g.oN) &&& (f.oN ||| g.oN) = 0 := by
  apply Nat.eq_of_testBit_eq
  intro a
  simp only [Nat.testBit_and, Nat.testBit_or, nAndNot_bit, Nat.zero_testBit]
  cases f.iN.testBit a <;> cases g.iN.testBit a <;> cases f.oN.testBit a <;> cases g.oN.testBit a <;> rfl
theorem nAndNot_lt {m k n : Nat} (h : m < 2 ^ n) : nAndNot m k < 2 ^ n := by
  unfold nAndNot
  exact Nat.xor_lt_two_pow h (Nat.lt_of_le_of_lt Nat.and_le_left h)

theorem togF_valid {f g : Fa} {n : Nat} (hf : f.Val n) (hg : g.Val n) {keep : Pr → Bool} (h5 : (togL f g n keep).length ≤ 500) : (togF f g n keep).validB = true := by
  have a1 := hf.ilt; have a2 := hf.olt; have a3 := hg.ilt; have a4 := hg.olt
  have b1 : f.iN ||| g.iN < 2 ^ n := Nat.or_lt_two_pow a1 a3
  have b2 : f.oN ||| g.oN < 2 ^ n := Nat.or_lt_two_pow a2 a4
  obtain ⟨h0, _⟩ := foundL_zero f g n (ownS f g) keep
  refine valid_of (n := n) (i := nAndNot (f.iN ||| g.iN) (f.oN ||| g.oN)) (o := f.oN ||| g.oN) hf.acts hf.len rfl rfl (nAndNot_lt b1) b2 (tog_dis f g) ?_ ?_ ?_
  · simp only [togF, List.length_map]; exact h0
  · simp only [togF, List.length_map]; exact h5
  · intro r hr
    simp only [togF, List.mem_map] at hr
    obtain ⟨x, hx, rfl⟩ := hr
    obtain ⟨j, hj, rfl⟩ := List.getElem_of_mem hx
    refine ⟨by simp [rowT], fun a ha => ?_⟩
    rw [rowT_at ha, tog_bits]
    simp only [togF, List.length_map]
    cases hst : stepN f g (togL f g n keep)[j].1 a with
    | none => exact ⟨by simp, by simp only; omega, by simp⟩
    | some q =>
      simp only
      have hown : (ownS f g).testBit a = true := by
        cases hb : (ownS f g).testBit a with
        | true => rfl
        | false => rw [stepN_own hf hg ha hb] at hst; cases hst
      by_cases hk : keep q = true
      · rw [if_pos hk]
        have hm : q ∈ (togL f g n keep).map (·.1) := foundL_closed hf hg hj (by simp only [bits, List.mem_filter, List.mem_range]; exact ⟨ha, hown⟩) hst hk
        have := List.idxOf_lt_length_iff.2 hm
        rw [List.length_map] at this
        exact ⟨by omega, by omega, fun _ => hown⟩
      · rw [if_neg hk]
        exact ⟨by omega, by omega, fun h => by omega⟩

theorem turn_valid {f : Fa} {n : Nat} (hf : f.Val n) : f.turn.validB = true := by
  refine valid_of (f := f.turn) (n := n) (i := f.oN) (o := f.iN) hf.acts hf.len hf.out hf.inn hf.olt hf.ilt (by rw [Nat.and_comm]; exact hf.dis) hf.pos hf.few ?_
  intro r hr
  obtain ⟨x, hx, rfl⟩ := List.getElem_of_mem hr
  refine ⟨hf.row x hx, fun a ha => ?_⟩
  have e : (f.turn.sts[x]).getD a 0 = f.at' x a := by
    have hx' : x < f.sts.length := hx
    simp only [Fa.at', List.getD, List.getElem?_eq_getElem hx', Option.getD_some]
    rfl
  rw [e, Nat.or_comm]
  exact ⟨hf.lo x a hx ha, hf.hi x a hx ha, hf.own x a hx ha⟩

/-- What sends nothing and accepts all of s. -/
def worldF (acts : List ByteArray) (s : Nat) : Fa := ⟨acts, (s : Int), 0, [(List.range acts.length).map fun a => if s.testBit a = true then 0 else -1]⟩

theorem world_valid {acts : List ByteArray} {s : Nat} (ha : actsB acts = true) (hs : s < 2 ^ acts.length) : (worldF acts s).validB = true := by
  refine valid_of (f := worldF acts s) (n := acts.length) (i := s) (o := 0) ha rfl rfl rfl hs (Nat.two_pow_pos _) (Nat.and_zero _) (by simp [worldF]) (by simp [worldF]) ?_
  intro r hr
  simp only [worldF, List.mem_cons, List.not_mem_nil, or_false] at hr
  subst hr
  refine ⟨by simp, fun a ha => ?_⟩
  have e : ((List.range acts.length).map fun a => if s.testBit a = true then (0 : Int) else -1).getD a 0 = if s.testBit a = true then 0 else -1 := by
    rw [List.getD, List.getElem?_map, List.getElem?_range ha]; rfl
  rw [e, Nat.or_zero]
  simp only [worldF, List.length_cons, List.length_nil]
  split
  · rename_i h; exact ⟨by omega, by omega, fun _ => h⟩
  · exact ⟨by omega, by omega, fun h => by omega⟩

theorem fits_of {f g : Fa} (hf : f.validB = true) (hg : g.validB = true) (ha : f.acts = g.acts) (ho : f.oN &&& g.oN = 0) (hw : ∀ y ∈ wayL f g f.acts.length, brokenB f g f.acts.length y.1.1 y.1.2 = false) : pairedE f g = 0 ∧ fitsB f g = true := by
  have v1 := Fa.val_of hf
  have v2 := Fa.val_of hg
  have hp := pow8 v1.n8
  have hp2 := pow8 v2.n8
  have o1 := v1.olt
  have o2 := v2.olt
  have hfine : fineE f g = 0 := by simp [fineE, hf, hg, ha]
  have hand : andI f.out g.out = 0 := by unfold andI; rw [v1.out, v2.out, bit2_and _ _ (by omega) (by omega), ho]; rfl
  have hpr : pairedE f g = 0 := by simp [pairedE, hfine, hand]
  refine ⟨hpr, ?_⟩
  have : ¬ wayI f g f.acts.length < (wayL f g f.acts.length).length := way_none fun i h => hw _ (List.getElem_mem h)
  simp [fitsB, wayB, hpr, this]

/-- A world that accepts all that a face sends fits it. -/
theorem fits_world {f : Fa} {n : Nat} (hf : f.validB = true) (hn : f.acts.length = n) {s : Nat} (hs : s < 2 ^ n) (hso : s = f.oN) : pairedE f (worldF f.acts s) = 0 ∧ fitsB f (worldF f.acts s) = true := by
  have v := Fa.val_of hf
  have hwv := world_valid (s := s) v.acts (by rw [hn]; exact hs)
  have wo : (worldF f.acts s).oN = 0 := rfl
  have wi : (worldF f.acts s).iN = s := by simp [Fa.iN, worldF]
  refine fits_of hf hwv rfl (by rw [wo, Nat.and_zero]) fun y hy => ?_
  have vw : (worldF f.acts s).Val f.acts.length := Fa.val_of hwv
  have hin := foundL_in v vw y hy
  have hy0 : y.1.2 = 0 := by have := hin.2; simp [worldF] at this; exact this
  unfold brokenB sendB
  rw [wo, wi, Nat.zero_and]
  have h2 : ∀ x y' : Nat, ((bits f.acts.length 0).any fun a => decide ((worldF f.acts s).at' x a ≥ 0) && decide (f.at' y' a < 0)) = false := fun x y' => by
    simp [bits]
  rw [h2, Bool.or_false, List.any_eq_false]
  intro a ha
  simp only [bits, List.mem_filter, List.mem_range] at ha
  have hat : (worldF f.acts s).at' y.1.2 a = 0 := by
    rw [hy0]
    have hb : s.testBit a = true := by have := ha.2; rw [Nat.testBit_and] at this; simp at this; exact this.2
    simp only [Fa.at', worldF, List.getD, List.getElem?_cons_zero, Option.getD_some, List.getElem?_map, List.getElem?_range ha.1, Option.map_some, hb, if_true]
  rw [hat]
  simp

/-- A face fits the face that sends what it accepts, and accepts what it sends. -/
theorem fits_turn {f : Fa} {n : Nat} (hf : f.Val n) (hv : f.validB = true) : pairedE f f.turn = 0 ∧ fitsB f f.turn = true := by
  have hn := hf.len
  have hto : f.turn.oN = f.iN := rfl
  have hti : f.turn.iN = f.oN := rfl
  have hat : ∀ x a, f.turn.at' x a = f.at' x a := fun _ _ => rfl
  have hown : ∀ a, f.turn.ownB a = f.ownB a := fun a => by
    have h1 := hf.ilt; have h2 := hf.olt; have hp := pow8 hf.n8
    unfold Fa.ownB
    show hasI (orI f.out f.inn) a = hasI (orI f.inn f.out) a
    rw [hf.inn, hf.out, orI_nat (by omega) (by omega), orI_nat (by omega) (by omega), Nat.or_comm]
  refine fits_of hv (turn_valid hf) rfl (by rw [hto, Nat.and_comm]; exact hf.dis) fun y hy => ?_
  have hdiag : y.1.1 = y.1.2 := by
    refine bfs_all (p := fun p : Pr => p.1 = p.2) (fun i p hp z hz => ?_) _ _ _ ?_ y hy
    · simp only [sucs, List.mem_filterMap] at hz
      obtain ⟨a, _, h2⟩ := hz
      simp only [suc1, Option.bind_eq_some_iff] at h2
      obtain ⟨q, h3, h4⟩ := h2
      split at h4
      · simp only [Option.some.injEq] at h4
        subst h4
        unfold stepN at h3
        split at h3
        · simp only [Option.some.injEq] at h3
          subst h3
          simp only [stepI, hown, hat, hp]
        · cases h3
      · cases h4
    · intro z hz; simp at hz; subst hz; rfl
  have h0 : ∀ s x, ((bits f.acts.length s).any fun a => decide (f.at' x a ≥ 0) && decide (f.at' x a < 0)) = false := fun s x => by
    rw [List.any_eq_false]; intro a _; simp
  unfold brokenB sendB
  simp only [hat, hdiag, h0, Bool.or_self]

/-- The actions of a run are of the set. -/
theorem runN_set {f g : Fa} {n s : Nat} : ∀ {l : List Int} {p q : Pr}, runN f g n s p l = some q → ∀ a ∈ l, 0 ≤ a ∧ a < n ∧ s.testBit a.toNat = true
  | [], _, _, _, a, ha => by simp at ha
  | b :: l, p, q, h, a, ha => by
    simp only [runN, List.foldlM_cons, Option.bind_eq_bind, Option.bind_eq_some_iff] at h
    obtain ⟨r, h1, h2⟩ := h
    rcases List.mem_cons.1 ha with rfl | ha
    · unfold step1 at h1
      split at h1
      · assumption
      · cases h1
    · exact runN_set h2 a ha
end Go.Proofs.Ytebbiciepbbhkaa
/- Chapter 12, part Tw: the law FaceWorlds. -/
namespace Go.Proofs.Ytebbiciepbbhkaa
open Go Go.NS


theorem world_small {acts : List ByteArray} (h : acts.length * 16 ≤ 140737488351232) (s : Nat) : (worldF acts s).Small := by
  refine ⟨h, by simp [worldF], ?_⟩
  intro l hl
  simp only [worldF, List.mem_cons, List.not_mem_nil, or_false] at hl
  subst hl
  simp only [List.length_map, List.length_range]; omega

set_option maxRecDepth 6000 in
set_option maxHeartbeats 8000000 in
theorem FaceWorlds_ok (f g : Fa) (hf : f.Small) (hg : g.Small) : Fp Try.prog 6 [f.av, g.av] (abool true) := by
  refine Fp.of_vc tok Try.func6 rfl (by decide) ?_
  simp -implicitDefEqProofs only [go_sem, Try.ntmps6, Fa.av, Fa.cells]
  refine newK_intro fun n2 hn2 => ?_
  try simp -implicitDefEqProofs only [hset, List.map_append, List.map_cons, List.map_nil, List.cons_append, List.nil_append, List.mem_cons, List.mem_append, List.not_mem_nil, or_false, not_or] at hn2
  simp -implicitDefEqProofs only [go_sem]
  refine newK_intro fun n3 hn3 => ?_
  try simp -implicitDefEqProofs only [hset, List.map_append, List.map_cons, List.map_nil, List.cons_append, List.nil_append, List.mem_cons, List.mem_append, List.not_mem_nil, or_false, not_or] at hn3
  simp -implicitDefEqProofs only [go_sem, hn3, not_false_eq_true, iA]
  by_cases g1 : (f.sts.length : Int) > 20
  · simp -implicitDefEqProofs only [go_sem, g1, decide_true, hn3, not_false_eq_true, iA]
    refine opK_pure (awake_ok) rfl (Sub.of_eq (by first | rfl | simp -implicitDefEqProofs only [go_sem])) ?_
    simp -implicitDefEqProofs only [go_sem, hn3, not_false_eq_true, iA]
    refine fnPost_ret tok ?_
    simp -implicitDefEqProofs only [go_sem, Try.results6]
  simp -implicitDefEqProofs only [go_sem, g1, decide_false, hn3, not_false_eq_true, iA]
  by_cases g2 : (g.sts.length : Int) > 20
  · simp -implicitDefEqProofs only [go_sem, g2, decide_true, hn3, not_false_eq_true, iA]
    refine opK_pure (awake_ok) rfl (Sub.of_eq (by first | rfl | simp -implicitDefEqProofs only [go_sem])) ?_
    simp -implicitDefEqProofs only [go_sem, hn3, not_false_eq_true, iA]
    refine fnPost_ret tok ?_
    simp -implicitDefEqProofs only [go_sem, Try.results6]
  simp -implicitDefEqProofs only [go_sem, g2, decide_false, hn3, not_false_eq_true, iA]
  refine opK_pure (Few_ok f hf 500 (by omega)) rfl (Sub.of_eq (by first | rfl | simp -implicitDefEqProofs only [go_sem])) ?_
  simp -implicitDefEqProofs only [go_sem, hn3, not_false_eq_true, iA]
  cases g3 : fewB f 500 with
  | false =>
    simp -implicitDefEqProofs only [go_sem, hn3, not_false_eq_true, iA]
    refine opK_pure (awake_ok) rfl (Sub.of_eq (by first | rfl | simp -implicitDefEqProofs only [go_sem])) ?_
    simp -implicitDefEqProofs only [go_sem, hn3, not_false_eq_true, iA]
    refine fnPost_ret tok ?_
    simp -implicitDefEqProofs only [go_sem, Try.results6]
  | true =>
  simp -implicitDefEqProofs only [go_sem, hn3, not_false_eq_true, iA]
  refine opK_pure (Few_ok g hg 500 (by omega)) rfl (Sub.of_eq (by first | rfl | simp -implicitDefEqProofs only [go_sem])) ?_
  simp -implicitDefEqProofs only [go_sem, hn3, not_false_eq_true, iA]
  cases g4 : fewB g 500 with
  | false =>
    simp -implicitDefEqProofs only [go_sem, hn3, not_false_eq_true, iA]
    refine opK_pure (awake_ok) rfl (Sub.of_eq (by first | rfl | simp -implicitDefEqProofs only [go_sem])) ?_
    simp -implicitDefEqProofs only [go_sem, hn3, not_false_eq_true, iA]
    refine fnPost_ret tok ?_
    simp -implicitDefEqProofs only [go_sem, Try.results6]
  | true =>
  simp -implicitDefEqProofs only [go_sem, hn3, not_false_eq_true, iA]
  refine AW.draw tok hmix ⟨[], [], [], false⟩ (by kernel_rfl) (Has.of_sub (List.nil_sublist _)) ?_
  simp -implicitDefEqProofs only [go_sem, hn3, not_false_eq_true, iA]
  refine opK_pure (Copy_ok f hf) rfl (Sub.of_eq (by first | rfl | simp -implicitDefEqProofs only [go_sem])) ?_
  simp -implicitDefEqProofs only [go_sem, hn3, not_false_eq_true, iA]
  refine opK_pure (Copy_ok g hg) rfl (Sub.of_eq (by first | rfl | simp -implicitDefEqProofs only [go_sem])) ?_
  simp -implicitDefEqProofs only [go_sem, hn3, not_false_eq_true, iA]
  refine opK_pure (Fits_ok f g hf hg) rfl (Sub.of_eq (by first | rfl | simp -implicitDefEqProofs only [go_sem])) ?_
  simp -implicitDefEqProofs only [go_sem, hn3, not_false_eq_true, iA]
  by_cases c0 : pairedE f g = 0
  rotate_left
  · simp -implicitDefEqProofs only [go_sem, c0, decide_false, hn3, not_false_eq_true, iA]
    refine opK_pure (awake_ok) rfl (Sub.of_eq (by first | rfl | simp -implicitDefEqProofs only [go_sem])) ?_
    simp -implicitDefEqProofs only [go_sem, hn3, not_false_eq_true, iA]
    refine fnPost_ret tok ?_
    simp -implicitDefEqProofs only [go_sem, Try.results6]
  obtain ⟨h1, h2⟩ := paired_val c0
  obtain ⟨hv, hw, hacts⟩ := fine_val h1
  obtain ⟨n, hn⟩ : ∃ n, f.acts.length = n := ⟨_, rfl⟩
  have h8 := hv.n8
  obtain ⟨hor, hlt⟩ := out_or hv hw
  have hp8 := pow8 hv.n8
  have hlw := lost_way hv hw
  simp -implicitDefEqProofs only [go_sem, c0, decide_true, hn3, not_false_eq_true, iA]
  by_cases hbw : wayI f g f.acts.length < (wayL f g f.acts.length).length
  · have hB : fitsB f g = false := by simp [fitsB, wayB, hbw]
    have hW : fitsW f g = wayW f g f.acts.length := by simp [fitsW, c0]
    have hbk := wayW_breaks hbw
    have hln : (wayW f g f.acts.length).length * 8 ≤ 140737488351232 := by
      have h1 := wayW_len f g f.acts.length
      have h2 := in_length (foundL_nodup f g f.acts.length (f.oN ||| g.oN) fun _ => true) (foundL_in hv hw)
      have h3 : wayL f g f.acts.length = foundL f g f.acts.length (f.oN ||| g.oN) fun _ => true := rfl
      have h4 : f.sts.length * g.sts.length ≤ 500 * 500 := Nat.mul_le_mul hv.few hw.few
      rw [← h3] at h2
      omega
    have hset : ∀ a ∈ wayW f g f.acts.length, 0 ≤ a ∧ a < f.acts.length ∧ (f.oN ||| g.oN).testBit a.toNat = true := by
      unfold breaksN at hbk
      split at hbk
      · rename_i p hr; exact runN_set hr
      · cases hbk
    obtain ⟨W, hWW⟩ : ∃ W, W = wayW f g f.acts.length := ⟨_, rfl⟩
    rw [← hWW] at hW hbk hln hset
    have hbr : breaksB f g W = true := by simp [breaksB, c0, hbk]
    simp -implicitDefEqProofs only [go_sem, hB, hW, hn3, not_false_eq_true, iA]
    refine AW.draw tok hmix ⟨[], [], [], false⟩ (by kernel_rfl) (Has.of_sub (List.nil_sublist _)) ?_
    simp -implicitDefEqProofs only [go_sem, hn3, not_false_eq_true, iA]
    refine opK_pure (Copy_ok f hf) rfl (Sub.of_eq (by first | rfl | simp -implicitDefEqProofs only [go_sem])) ?_
    simp -implicitDefEqProofs only [go_sem, hn3, not_false_eq_true, iA]
    refine opK_pure (Copy_ok g hg) rfl (Sub.of_eq (by first | rfl | simp -implicitDefEqProofs only [go_sem])) ?_
    simp -implicitDefEqProofs only [go_sem, hn3, not_false_eq_true, iA, intsA]
    refine opK_appendImm tok rfl rfl T44 rfl T3 (by decide) rfl (by decide) (by simp only [List.length_map, Nat.div_one]; omega) ?_
    simp -implicitDefEqProofs only [go_sem, hn3, not_false_eq_true, iA]
    refine opK_pure (Breaks_ok f g hf hg W hln) rfl (Sub.of_eq (by first | rfl | simp -implicitDefEqProofs only [go_sem])) ?_
    simp -implicitDefEqProofs only [go_sem, hn3, not_false_eq_true, iA, hbr, c0]
    refine AW.loopP tok (α := Nat) (fun a => slots 188 [(2, .ptr n2 0), (3, .ptr n3 0), (4, abool false), (8, abool true), (9, iA 0), (70, intsA W), (71, iA W.length), (72, iA a)]) (fun _ => [(n2, .cells 25 [strsA f.acts, iA f.inn, iA f.out, .imm 1 (f.sts.map intsA)]), (n3, .cells 25 [strsA g.acts, iA g.inn, iA g.out, .imm 1 (g.sts.map intsA)])])
      (fun a => a ≤ W.length) (fun a => W.length - a) 0 (Nat.zero_le _) (by simp -implicitDefEqProofs only [go_sem, iA, intsA]) (Has.refl _) ?_
    intro a ha
    simp -implicitDefEqProofs only [go_sem, iA, intsA]
    by_cases hal : a < W.length
    · have e2 : (W.map iA)[a]? = some (iA W[a]) := by simp [hal]
      obtain ⟨s1, s2, s3⟩ := hset W[a] (List.getElem_mem hal)
      obtain ⟨m, hm⟩ : ∃ m : Nat, W[a] = (m : Int) := ⟨W[a].toNat, by omega⟩
      rw [hm] at s1 s2 s3 e2
      have s4 : ¬ ((m : Int) < 0) := by omega
      have s5 : ¬ ((m : Int) ≥ (f.acts.length : Int)) := by omega
      have hbit : hasI ((f.oN ||| g.oN : Nat) : Int) m = true := by
        rw [hasI_nat _ _ (by omega) (by omega)]; simpa using s3
      simp -implicitDefEqProofs only [go_sem, dlt_true hal, hal, e2, hn3, not_false_eq_true, iA, s4, s5, decide_false, hor, strsA]
      refine opK_pure (Has_ok ((f.oN ||| g.oN : Nat) : Int) m) rfl (Sub.of_eq (by first | rfl | simp -implicitDefEqProofs only [go_sem])) ?_
      simp -implicitDefEqProofs only [go_sem, hbit, hn3, not_false_eq_true, iA, wrap_up hal (by omega)]
      exact ⟨a + 1, hal, by omega, by simp -implicitDefEqProofs only [go_sem], Has.refl _⟩
    · have e1 : decide ((a : Int) < (W.length : Int)) = false := by simp; omega
      simp -implicitDefEqProofs only [go_sem, e1, hn3, not_false_eq_true, iA]
      refine opK_pure (awake_ok) rfl (Sub.of_eq (by first | rfl | simp -implicitDefEqProofs only [go_sem])) ?_
      simp -implicitDefEqProofs only [go_sem, hn3, not_false_eq_true, iA]
      refine fnPost_ret tok ?_
      simp -implicitDefEqProofs only [go_sem, Try.results6]
  have hB : fitsB f g = true := by simp [fitsB, wayB, hbw, c0]
  have hl : lostD f g f.acts.length (0, 0) = false := by
    cases h : lostD f g f.acts.length (0, 0) with
    | false => rfl
    | true => exact absurd (hlw.2 h) hbw
  simp -implicitDefEqProofs only [go_sem, hB, hn3, not_false_eq_true, iA]
  refine AW.draw tok hmix ⟨[], [], [], false⟩ (by kernel_rfl) (Has.of_sub (List.nil_sublist _)) ?_
  simp -implicitDefEqProofs only [go_sem, hn3, not_false_eq_true, iA]
  refine opK_pure (Copy_ok f hf) rfl (Sub.of_eq (by first | rfl | simp -implicitDefEqProofs only [go_sem])) ?_
  simp -implicitDefEqProofs only [go_sem, hn3, not_false_eq_true, iA]
  refine opK_pure (Copy_ok g hg) rfl (Sub.of_eq (by first | rfl | simp -implicitDefEqProofs only [go_sem])) ?_
  simp -implicitDefEqProofs only [go_sem, hn3, not_false_eq_true, iA]
  refine opK_pure (Together_ok f g hf hg) rfl (Sub.of_eq (by first | rfl | simp -implicitDefEqProofs only [go_sem])) ?_
  simp -implicitDefEqProofs only [go_sem, hn3, not_false_eq_true, iA, Fa.av, Fa.cells]
  refine newK_intro fun n12 hn12 => ?_
  try simp -implicitDefEqProofs only [hset, List.map_append, List.map_cons, List.map_nil, List.cons_append, List.nil_append, List.mem_cons, List.mem_append, List.not_mem_nil, or_false, not_or] at hn12
  simp -implicitDefEqProofs only [go_sem, hn3, not_false_eq_true, iA, hn12]
  by_cases h5 : 500 < (togL f g f.acts.length (keepD f g f.acts.length)).length
  · have he : togE f g = 2 := by simp only [togE, if_pos c0, hl, if_pos h5]; rfl
    have h20 : decide ((2 : Int) = 0) = false := by decide
    simp -implicitDefEqProofs only [go_sem, he, h20, hn3, not_false_eq_true, iA, hn12]
    refine opK_pure (awake_ok) rfl (Sub.of_eq (by first | rfl | simp -implicitDefEqProofs only [go_sem])) ?_
    simp -implicitDefEqProofs only [go_sem, hn3, not_false_eq_true, iA, hn12]
    refine fnPost_ret tok ?_
    simp -implicitDefEqProofs only [go_sem, Try.results6]
  have he : togE f g = 0 := by simp only [togE, if_pos c0, hl, if_neg h5]; rfl
  have hR : togR f g = togF f g f.acts.length (keepD f g f.acts.length) := by simp only [togR, he, if_true]
  obtain ⟨T, hT⟩ : ∃ T, T = togR f g := ⟨_, rfl⟩
  have hTv : T.validB = true := by rw [hT, hR]; exact togF_valid hv hw (by omega)
  have hTs : T.Small := by rw [hT, hR]; exact togF_small hv hw hf _
  have hTa : T.acts = f.acts := by rw [hT, hR]; rfl
  have hTo : T.oN = f.oN ||| g.oN := by rw [hT, hR]; simp [togF, Fa.oN]
  rw [← hT]
  simp -implicitDefEqProofs only [go_sem, he, hn3, not_false_eq_true, iA, hn12, decide_true]
  have hsa := hf.a
  refine AW.draw tok hmix ⟨[], [], [], false⟩ (by kernel_rfl) (Has.of_sub (List.nil_sublist _)) ?_
  simp -implicitDefEqProofs only [go_sem, hn3, not_false_eq_true, iA, hn12, strsA]
  refine opK_appendImm tok rfl rfl T22 rfl T9 (by decide) rfl (by decide) (by simp only [List.length_map, Nat.div_one]; omega) ?_
  simp -implicitDefEqProofs only [go_sem, hn3, not_false_eq_true, iA, hn12, hor]
  refine newK_intro fun n14 hn14 => ?_
  try simp -implicitDefEqProofs only [hset, List.map_append, List.map_cons, List.map_nil, List.cons_append, List.nil_append, List.mem_cons, List.mem_append, List.not_mem_nil, or_false, not_or] at hn14
  simp -implicitDefEqProofs only [go_sem, hn3, not_false_eq_true, iA, hn12, hn14]
  obtain ⟨s, hs⟩ : ∃ s, s = f.oN ||| g.oN := ⟨_, rfl⟩
  rw [← hs] at hTo hlt
  rw [← hs]
  refine AW.adopt 15 3 (sz := 1) (by decide) rfl fun nY hnY => ?_
  try simp -implicitDefEqProofs only [hset, List.map_append, List.map_cons, List.map_nil, List.cons_append, List.nil_append, List.mem_cons, List.mem_append, List.not_mem_nil, or_false, not_or] at hnY
  simp -implicitDefEqProofs only [go_sem, hn3, not_false_eq_true, iA, hn12, hn14, hnY]
  refine AW.loopP tok (α := Nat × Nat) (fun a => slots 188 [(2, .ptr n2 0), (3, .ptr n3 0), (4, abool false), (12, .ptr n12 0), (14, .ptr n14 0), (15, .own nY a.2), (131, iA f.acts.length), (132, iA a.1)])
    (fun a => [(n2, .cells 25 [strsA f.acts, .raw (.int .i64 f.inn), .raw (.int .i64 f.out), .imm 1 (f.sts.map intsA)]), (n3, .cells 25 [strsA g.acts, .raw (.int .i64 g.inn), .raw (.int .i64 g.out), .imm 1 (g.sts.map intsA)]), (n12, .cells 25 [strsA T.acts, .raw (.int .i64 T.inn), .raw (.int .i64 T.out), .imm 1 (T.sts.map intsA)]), (n14, .cells 25 [.imm 1 (f.acts.map sA), .raw (.int .i64 (s : Nat)), .raw (.int .i64 0), .raw (.slice none 0 0)]), (nY, .row 3 1 a.2 (((((List.range f.acts.length).map fun a => if s.testBit a = true then (0 : Int) else -1)).take a.1).map iA))])
    (fun a => a.1 ≤ f.acts.length) (fun a => f.acts.length - a.1) (0, 0) (Nat.zero_le _) (by simp -implicitDefEqProofs only [go_sem, iA]) (by simp -implicitDefEqProofs only [go_sem, strsA]; exact Has.refl _) ?_
  rintro ⟨a, v⟩ ha
  simp only at ha
  have hwl : (((List.range f.acts.length).map fun a => if s.testBit a = true then (0 : Int) else -1)).length = f.acts.length := by simp
  have htl : ((((List.range f.acts.length).map fun a => if s.testBit a = true then (0 : Int) else -1)).take a).length = a := by rw [List.length_take, hwl]; omega
  simp -implicitDefEqProofs only [go_sem, hn3, not_false_eq_true, iA, hn12, hn14, hnY]
  by_cases hal : a < f.acts.length
  · have hbit : hasI (s : Int) a = s.testBit a := hasI_nat _ _ (by omega) (by omega)
    have htk : (((List.range f.acts.length).map fun a => if s.testBit a = true then (0 : Int) else -1)).take (a + 1) = (((List.range f.acts.length).map fun a => if s.testBit a = true then (0 : Int) else -1)).take a ++ [if s.testBit a = true then (0 : Int) else -1] := by
      rw [List.take_add_one, List.getElem?_map, List.getElem?_range hal]; rfl
    simp -implicitDefEqProofs only [go_sem, dlt_true hal, hn3, not_false_eq_true, iA, hn12, hn14, hnY]
    refine opK_pure (Has_ok (s : Int) a) rfl (Sub.of_eq (by first | rfl | simp -implicitDefEqProofs only [go_sem])) ?_
    simp -implicitDefEqProofs only [go_sem, hbit]
    by_cases c : s.testBit a = true
    · have hrow : ((((List.range f.acts.length).map fun a => if s.testBit a = true then (0 : Int) else -1)).take a).map iA ++ [.raw (.int .i64 0)] = ((((List.range f.acts.length).map fun a => if s.testBit a = true then (0 : Int) else -1)).take (a + 1)).map iA := by rw [htk, List.map_append, if_pos c]; rfl
      simp -implicitDefEqProofs only [go_sem, c, hn3, not_false_eq_true, iA, hn12, hn14, hnY]
      refine opK_lit tok T44 rfl T3 (by decide) (by simp -implicitDefEqProofs only [go_sem, zrep, List.flatten_cons, List.flatten_nil]; rfl) ?_
      simp -implicitDefEqProofs only [go_sem, hn3, not_false_eq_true, iA, hn12, hn14, hnY]
      refine opK_append tok rfl rfl (by simp -implicitDefEqProofs only [go_sem, hn3, not_false_eq_true, iA, hn12, hn14, hnY]; rfl) rfl T44 rfl T3 rfl (by decide) (by simp only [List.length_map, htl, Nat.div_one, List.length_cons, List.length_nil]; omega) fun v2 => ?_
      simp -implicitDefEqProofs only [go_sem, hn3, not_false_eq_true, iA, hn12, hn14, hnY, wrap_up hal (by omega)]
      refine ⟨(a + 1, v2), hal, by simp only; omega, by simp -implicitDefEqProofs only [go_sem], ?_⟩
      have hrow' := hrow
      simp only [iA, aint] at hrow' ⊢
      rw [← hrow']
      exact Has.refl _
    · have hrow : ((((List.range f.acts.length).map fun a => if s.testBit a = true then (0 : Int) else -1)).take a).map iA ++ [.raw (.int .i64 (-1))] = ((((List.range f.acts.length).map fun a => if s.testBit a = true then (0 : Int) else -1)).take (a + 1)).map iA := by rw [htk, List.map_append, if_neg c]; rfl
      simp -implicitDefEqProofs only [go_sem, c, hn3, not_false_eq_true, iA, hn12, hn14, hnY]
      refine opK_lit tok T44 rfl T3 (by decide) (by simp -implicitDefEqProofs only [go_sem, zrep, List.flatten_cons, List.flatten_nil]; rfl) ?_
      simp -implicitDefEqProofs only [go_sem, hn3, not_false_eq_true, iA, hn12, hn14, hnY]
      refine opK_append tok rfl rfl (by simp -implicitDefEqProofs only [go_sem, hn3, not_false_eq_true, iA, hn12, hn14, hnY]; rfl) rfl T44 rfl T3 rfl (by decide) (by simp only [List.length_map, htl, Nat.div_one, List.length_cons, List.length_nil]; omega) fun v2 => ?_
      simp -implicitDefEqProofs only [go_sem, hn3, not_false_eq_true, iA, hn12, hn14, hnY, wrap_up hal (by omega)]
      refine ⟨(a + 1, v2), hal, by simp only; omega, by simp -implicitDefEqProofs only [go_sem], ?_⟩
      have hrow' := hrow
      simp only [iA, aint] at hrow' ⊢
      rw [← hrow']
      exact Has.refl _
  obtain rfl : f.acts.length = a := by omega
  have e1 : decide ((f.acts.length : Int) < (f.acts.length : Int)) = false := by simp
  rw [List.take_of_length_le (by omega)]
  simp -implicitDefEqProofs only [go_sem, e1, hn3, not_false_eq_true, iA, hn12, hn14, hnY]
  refine opK_litOwn tok rfl T23 rfl T44 (by decide) (by simp -implicitDefEqProofs only [go_sem, zrep, List.flatten_cons, List.flatten_nil]; rfl) fun nZ vZ hnZ => ?_
  try simp -implicitDefEqProofs only [hset, List.map_append, List.map_cons, List.map_nil, List.cons_append, List.nil_append, List.mem_cons, List.mem_append, List.not_mem_nil, or_false, not_or] at hnZ
  simp -implicitDefEqProofs only [go_sem, hn3, not_false_eq_true, iA, hn12, hn14, hnY, hnZ]
  have hwS : (worldF f.acts s).Small := world_small hsa s
  have hfw : pairedE T (worldF f.acts s) = 0 ∧ fitsB T (worldF f.acts s) = true := by
    have := fits_world (f := T) (s := s) hTv rfl (by rw [hTa]; exact hlt) hTo.symm
    rw [hTa] at this; exact this
  have hTval : T.Val T.acts.length := Fa.val_of hTv
  obtain ⟨ht1, ht2⟩ := fits_turn hTval hTv
  have hoF : otherF T = T.turn := by simp [otherF, hTv]
  have hoE : otherE T = 0 := by simp [otherE, hTv]
  have htS : T.turn.Small := turn_small hTs
  have hfz : Fz [(nY, AObj.row 3 1 v ((((List.range f.acts.length).map fun a => if s.testBit a = true then (0 : Int) else -1)).map iA)), (nZ, AObj.row 44 1 vZ [.own nY v])] (.own nZ vZ) (.imm 1 [.imm 1 ((((List.range f.acts.length).map fun a => if s.testBit a = true then (0 : Int) else -1)).map iA)]) := Fz.rowS (t := 44) (List.mem_cons_of_mem _ List.mem_cons_self) (Fzs.cons (Fz.rowS (t := 3) List.mem_cons_self (Fzs.refl _)) Fzs.nil)
  refine AW.fz [(nY, AObj.row 3 1 v ((((List.range f.acts.length).map fun a => if s.testBit a = true then (0 : Int) else -1)).map iA)), (nZ, AObj.row 44 1 vZ [.own nY v])] [(n2, AObj.cells 25 [strsA f.acts, .raw (.int .i64 f.inn), .raw (.int .i64 f.out), .imm 1 (f.sts.map intsA)]), (n3, AObj.cells 25 [strsA g.acts, .raw (.int .i64 g.inn), .raw (.int .i64 g.out), .imm 1 (g.sts.map intsA)]), (n12, AObj.cells 25 [strsA T.acts, .raw (.int .i64 T.inn), .raw (.int .i64 T.out), .imm 1 (T.sts.map intsA)]), (n14, .cells 25 [.imm 1 (f.acts.map sA), .raw (.int .i64 (s : Nat)), .raw (.int .i64 0), .own nZ vZ])]
    (t' := slots 188 [(2, .ptr n2 0), (3, .ptr n3 0), (4, abool false), (12, .ptr n12 0), (14, .ptr n14 0)]) (B' := [(n2, AObj.cells 25 [strsA f.acts, .raw (.int .i64 f.inn), .raw (.int .i64 f.out), .imm 1 (f.sts.map intsA)]), (n3, AObj.cells 25 [strsA g.acts, .raw (.int .i64 g.inn), .raw (.int .i64 g.out), .imm 1 (g.sts.map intsA)]), (n12, AObj.cells 25 [strsA T.acts, .raw (.int .i64 T.inn), .raw (.int .i64 T.out), .imm 1 (T.sts.map intsA)]), (n14, .cells 25 [.imm 1 (f.acts.map sA), .raw (.int .i64 (s : Nat)), .raw (.int .i64 0), .imm 1 [.imm 1 ((((List.range f.acts.length).map fun a => if s.testBit a = true then (0 : Int) else -1)).map iA)]])])
    (List.perm_append_comm (l₁ := [(nY, AObj.row 3 1 v ((((List.range f.acts.length).map fun a => if s.testBit a = true then (0 : Int) else -1)).map iA)), (nZ, AObj.row 44 1 vZ [.own nY v])]) (l₂ := [(n2, AObj.cells 25 [strsA f.acts, .raw (.int .i64 f.inn), .raw (.int .i64 f.out), .imm 1 (f.sts.map intsA)]), (n3, AObj.cells 25 [strsA g.acts, .raw (.int .i64 g.inn), .raw (.int .i64 g.out), .imm 1 (g.sts.map intsA)]), (n12, AObj.cells 25 [strsA T.acts, .raw (.int .i64 T.inn), .raw (.int .i64 T.out), .imm 1 (T.sts.map intsA)]), (n14, .cells 25 [.imm 1 (f.acts.map sA), .raw (.int .i64 (s : Nat)), .raw (.int .i64 0), .own nZ vZ])])) ?_
    (FzH.cons (.refl _) (FzH.cons (.refl _) (FzH.cons (.refl _) (FzH.cons (.cells (Fzs.cons (Fz.refl _) (Fzs.cons (Fz.refl _) (Fzs.cons (Fz.refl _) (Fzs.cons hfz Fzs.nil))))) FzH.nil)))) ?_
  · simp -implicitDefEqProofs only [go_sem]
    repeat (first | exact Fzs.nil | refine Fzs.cons (Fz.refl _) ?_ | refine Fzs.cons (Fz.junk _) ?_)
  simp -implicitDefEqProofs only [go_sem, hn3, not_false_eq_true, iA, hn12, hn14]
  refine AW.draw tok hmix ⟨[], [], [], false⟩ (by kernel_rfl) (Has.of_sub (List.nil_sublist _)) ?_
  simp -implicitDefEqProofs only [go_sem, hn3, not_false_eq_true, iA, hn12, hn14]
  refine opK_pure (Copy_ok T hTs) rfl (Sub.of_eq (by first | rfl | simp -implicitDefEqProofs only [go_sem])) ?_
  simp -implicitDefEqProofs only [go_sem, hn3, not_false_eq_true, iA, hn12, hn14]
  refine opK_pure (Fits_ok T (worldF f.acts s) hTs hwS) rfl (Sub.of_eq (by first | rfl | simp -implicitDefEqProofs only [go_sem])) ?_
  simp -implicitDefEqProofs only [go_sem, hn3, not_false_eq_true, iA, hn12, hn14, hfw.1, hfw.2]
  refine opK_pure (Copy_ok T hTs) rfl (Sub.of_eq (by first | rfl | simp -implicitDefEqProofs only [go_sem])) ?_
  simp -implicitDefEqProofs only [go_sem, hn3, not_false_eq_true, iA, hn12, hn14]
  refine opK_pure (Other_ok T hTs) rfl (Sub.of_eq (by first | rfl | simp -implicitDefEqProofs only [go_sem])) ?_
  simp -implicitDefEqProofs only [go_sem, hn3, not_false_eq_true, iA, hn12, hn14, hoF, hoE, Fa.av, Fa.cells]
  refine newK_intro fun n20 hn20 => ?_
  try simp -implicitDefEqProofs only [hset, List.map_append, List.map_cons, List.map_nil, List.cons_append, List.nil_append, List.mem_cons, List.mem_append, List.not_mem_nil, or_false, not_or] at hn20
  simp -implicitDefEqProofs only [go_sem, hn3, not_false_eq_true, iA, hn12, hn14, hn20]
  refine AW.draw tok hmix ⟨[], [], [], false⟩ (by kernel_rfl) (Has.of_sub (List.nil_sublist _)) ?_
  simp -implicitDefEqProofs only [go_sem, hn3, not_false_eq_true, iA, hn12, hn14, hn20]
  refine opK_pure (Copy_ok T hTs) rfl (Sub.of_eq (by first | rfl | simp -implicitDefEqProofs only [go_sem])) ?_
  simp -implicitDefEqProofs only [go_sem, hn3, not_false_eq_true, iA, hn12, hn14, hn20]
  refine opK_pure (Fits_ok T T.turn hTs htS) rfl (Sub.of_eq (by first | rfl | simp -implicitDefEqProofs only [go_sem])) ?_
  simp -implicitDefEqProofs only [go_sem, hn3, not_false_eq_true, iA, hn12, hn14, hn20, ht1, ht2, decide_true]
  refine opK_pure (awake_ok) rfl (Sub.of_eq (by first | rfl | simp -implicitDefEqProofs only [go_sem])) ?_
  simp -implicitDefEqProofs only [go_sem, hn3, not_false_eq_true, iA, hn12, hn14]
  refine fnPost_ret tok ?_
  simp -implicitDefEqProofs only [go_sem, Try.results6]

theorem FaceWorlds_fc (xs : List AV) (h : ShAs TT0 [25, 25] xs) : Fc Try.prog 6 xs [] fun x _ => x = abool true := by
  cases h with
  | cons h1 h =>
  cases h with
  | cons h2 h =>
  cases h
  obtain ⟨f, hf, rfl⟩ := shA_face h1
  obtain ⟨g, hg, rfl⟩ := shA_face h2
  exact FaceWorlds_ok f g hf hg
end Go.Proofs.Ytebbiciepbbhkaa
