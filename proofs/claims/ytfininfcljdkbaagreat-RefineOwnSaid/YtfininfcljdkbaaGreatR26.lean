/- Systems in memory of their own, part Xa: the witness. -/
import Derived.Test.YtfininfcljdkbaaGreatR23
set_option linter.unusedSimpArgs false
set_option linter.unusedVariables false
namespace Go.Proofs.YtfininfcljdkbaaGreat
open Go Go.NS
theorem nd_new {H : AHeap} {nm : Nat} {o : AObj} (h : (List.map (fun x => x.1) (H ++ [(nm, o)])).Nodup) : nm ∉ H.map (·.1) := fun hm => by
  rw [List.map_append, List.nodup_append] at h
  exact h.2.2 _ hm _ (by simp) rfl
def OwnY (W : Sy) (x : AV) (H : AHeap) : Prop := ∃ nA vA nO vO es ws, x = .agg [.own nA vA, .own nO vO] ∧ H = [(nA, .row 9 1 vA (W.acts.map sA)), (nO, .row 98 1 vO (ownsC W.sts.length es ws))] ++ rowsH W.sts.length 101 2 es ws (fun j => pc (W.row j))
set_option maxRecDepth 4000 in
set_option maxHeartbeats 4000000 in
theorem Witness_own (T : Sp) {k : Nat} (hV : T.Val k) (hne : ∀ x, x < T.sts.length → T.acc x ≠ []) (want : List Pr) (hw : WantOk T want) (hwl : want.length ≤ 250002) : Fc Tryz.prog 90 [T.av, stepsA want] [] (OwnY (witS T k want)) := by
  refine Fc.dropR ?_
  have hk8 := hV.k8
  have hfew := hV.few
  have hpos := hV.pos
  have hal := hV.len
  obtain ⟨N, hN⟩ : ∃ N, T.sts.length = N := ⟨_, rfl⟩
  refine Fc.of_vc tok Tryz.func90 rfl (by decide) ?_
  simp -implicitDefEqProofs only [go_sem, Tryz.ntmps90, Sp.av, Sp.cells, stepsA]
  refine newK_intro fun n2 hn2 => ?_
  try simp -implicitDefEqProofs only [hset, rowsH_names, frt] at hn2
  simp -implicitDefEqProofs only [go_sem]
  refine newK_intro fun n4 hn4 => ?_
  try simp -implicitDefEqProofs only [hset, rowsH_names, frt] at hn4
  simp -implicitDefEqProofs only [go_sem, hn4, not_false_eq_true, hget_skip, hset_skip, List.append_assoc, rowsH_names, hN, stC_div]
  refine opK_make tok (n := N) (zc := [.raw (.slice none 0 0)]) rfl rfl T191 rfl T39 (by decide) rfl rfl (by simp only; omega) (by omega) fun nT vT hnT => ?_
  try simp -implicitDefEqProofs only [hset, rowsH_names, frt] at hnT
  simp -implicitDefEqProofs only [go_sem, hn4, hnT, not_false_eq_true, hget_skip, hset_skip, List.append_assoc, rowsH_names, hN, zrep_one, ← outC_zero N (fun _ => 0) (fun _ => 0)]
  refine newK_intro fun n5 hn5 => ?_
  try simp -implicitDefEqProofs only [hset, rowsH_names, frt] at hn5
  simp -implicitDefEqProofs only [go_sem, not_false_eq_true, hget_skip, hset_skip, List.append_assoc, rowsH_names, hN, hn4, hnT, hn5, stC_div]
  refine AW.loopP tok (α := Nat × (Nat → Nat) × (Nat → Nat)) (fun a => slots 170 [(1, .imm 2 (pC want)), (2, .ptr n2 0), (4, .ptr n4 0), (5, .ptr n5 0), (27, .imm 2 (stC T.sts)), (28, iA N), (29, iA a.1)])
    (fun a => [(n2, .cells 25 [strsA T.acts, .imm 2 (stC T.sts)]), (n4, .cells 45 [.raw (.slice none 0 0), .raw (.slice none 0 0)]), (nT, .row 39 1 vT (outC N a.1 a.2.1 a.2.2)), (n5, .cells 191 [.own nT vT])] ++ rowsH a.1 3 1 a.2.1 a.2.2 (csW T []))
    (fun a => a.1 ≤ N ∧ Inj a.1 a.2.1 ∧ ∀ x, x < a.1 → ¬a.2.1 x = n2 ∧ ¬a.2.1 x = n4 ∧ ¬a.2.1 x = nT ∧ ¬a.2.1 x = n5) (fun a => N - a.1) (0, (fun _ => 0), (fun _ => 0)) ⟨Nat.zero_le _, inj_zero _, fun x h => absurd h (Nat.not_lt_zero x)⟩ (by simp -implicitDefEqProofs only [go_sem, iA, pC]) (by rw [rowsH_zero, List.append_nil]; exact Has.refl _) ?_
  rintro ⟨i, ns, vs⟩ ⟨hi, hI, hns⟩
  simp only at hi hI hns
  simp -implicitDefEqProofs only [go_sem, iA]
  by_cases hlt : i < N
  · have hxs : i < T.sts.length := by omega
    have e2 := stC_get T.sts i hxs
    obtain ⟨e3, e4, e5⟩ := stC_in hxs
    rw [hV.acc_eq hxs] at e2
    have h0 : 0 < (T.acc i).length := List.length_pos_iff.2 (hne i hxs)
    have g0 := natsI_at h0
    simp only [iA, aint] at g0
    simp -implicitDefEqProofs only [go_sem, dlt_true hlt, not_false_eq_true, hget_skip, hset_skip, List.append_assoc, rowsH_names, hN, hn4, hnT, hn5, e2, e3, e4, stC_div, hlt]
    refine newK_intro fun n7 hn7 => ?_
    try simp -implicitDefEqProofs only [hset, rowsH_names, frt] at hn7
    have hn7 : (¬n7 = n2 ∧ ¬n7 = n4 ∧ ¬n7 = nT ∧ ¬n7 = n5) ∧ n7 ∉ (List.range i).map ns := by simp only [hn7, not_false_eq_true, and_self]
    simp -implicitDefEqProofs only [go_sem, not_false_eq_true, hget_skip, hset_skip, List.append_assoc, rowsH_names, hN, hn4, hnT, hn5, hn7, names_ne hn7.2]
    refine AW.drawF tok hmix [40] [34] [(n5, .cells 191 [.own nT vT])] (by kernel_rfl) ?_ ?_
    · exact List.Sublist.cons _ (List.Sublist.cons _ (List.Sublist.cons _ (List.Sublist.cons_cons _ (List.nil_sublist _))))
    simp -implicitDefEqProofs only [go_sem, not_false_eq_true, hget_skip, hset_skip, List.append_assoc, rowsH_names, hN, hn4, hnT, hn5, hn7, names_ne hn7.2, intsA, List.length_map, natsI_length, Nat.div_one, h0, g0]
    refine opK_litOwn tok rfl T39 rfl T3 (by decide) (by simp -implicitDefEqProofs only [go_sem, zrep, List.flatten_cons, List.flatten_nil]; rfl) fun nR vR hnR => ?_
    try simp -implicitDefEqProofs only [hset, rowsH_names, frt] at hnR
    have hnR' : (¬nR = n2 ∧ ¬nR = n4 ∧ ¬nR = nT ∧ ¬nR = n5) ∧ nR ∉ (List.range i).map ns := by simp only [hnR, not_false_eq_true, and_self]
    have hin1 : i + 1 ≤ N := hlt
    refine ⟨by first | (rw [keepH_sub]; exact List.Sublist.cons _ (List.Sublist.cons _ (List.Sublist.cons _ (List.Sublist.cons_cons _ (List.nil_sublist _))))) | exact .inr (List.Sublist.cons _ (List.Sublist.cons _ (List.Sublist.cons _ (List.Sublist.cons_cons _ (List.nil_sublist _))))) | trivial, ?_⟩
    simp -implicitDefEqProofs only [go_sem, not_false_eq_true, hget_skip, hset_skip, List.append_assoc, rowsH_names, hN, hn4, hnT, hn5, hn7, names_ne hn7.2, hnR', outC_length, hlt, hin1, outC_set ns vs nR vR hlt, wrap_up hlt (by omega)]
    refine ⟨.inr (List.Sublist.cons _ (List.Sublist.cons _ (List.Sublist.cons _ (List.Sublist.cons_cons _ (List.nil_sublist _))))), ?_⟩
    have hcs : csW T [] i = [.raw (.int .i64 (T.acc i)[0])] := by rw [csW, setsW_nil, gd h0]; rfl
    refine ⟨(i + 1, upd ns i nR, upd vs i vR), ⟨hlt, inj_snoc hI hnR'.2, fun x hx => ?_⟩, by simp only; omega, by simp -implicitDefEqProofs only [go_sem], ?_⟩
    · by_cases e : x = i
      · subst e; simp only [upd_same]; exact hnR'.1
      · simp only [upd_ne e]; exact hns x (by omega)
    · rw [rowsH_next, hcs]
      refine ⟨[(n7, .cells 85 [.imm 1 ((natsI (T.acc i)).map iA), .imm 1 (T.sts[i].2.map iA)])], ?_⟩
      classical
      exact List.perm_iff_count.2 fun z => by simp only [List.count_append, List.count_cons, List.count_nil, List.cons_append, List.nil_append]; omega
  obtain rfl : N = i := by omega
  clear hi
  have hwC : stepsA want = .imm 2 (pC want) := rfl
  simp -implicitDefEqProofs only [go_sem, dlt_false hlt, not_false_eq_true, hget_skip, hset_skip, List.append_assoc, rowsH_names, hN, hn4, hnT, hn5, pC_div]
  clear hlt
  refine AW.loopP tok (α := Nat × (Nat → Nat)) (fun a => slots 170 [(1, .imm 2 (pC want)), (2, .ptr n2 0), (4, .ptr n4 0), (5, .ptr n5 0), (43, .imm 2 (pC want)), (44, iA want.length), (45, iA a.1)])
    (fun a => [(n2, .cells 25 [strsA T.acts, .imm 2 (stC T.sts)]), (n4, .cells 45 [.raw (.slice none 0 0), .raw (.slice none 0 0)]), (nT, .row 39 1 vT (outC N N ns a.2)), (n5, .cells 191 [.own nT vT])] ++ rowsH N 3 1 ns a.2 (csW T (want.take a.1)))
    (fun a => a.1 ≤ want.length) (fun a => want.length - a.1) (0, vs) (Nat.zero_le _) (by simp -implicitDefEqProofs only [go_sem, iA]) (Has.refl _) ?_
  clear vs
  rintro ⟨i, vs⟩ hi
  simp only at hi
  simp -implicitDefEqProofs only [go_sem, iA]
  by_cases hlt : i < want.length
  · have eg := pC_get hlt
    have e4 : i * 2 + 2 ≤ (pC want).length := by rw [pC_len]; omega
    have e6 : i * 2 < (pC want).length := by omega
    obtain ⟨x, v, hxv⟩ : ∃ x v, want[i] = (x, v) := ⟨_, _, rfl⟩
    have hwi := hw _ (List.getElem_mem hlt)
    rw [hxv] at hwi eg
    simp only at hwi eg
    obtain ⟨hxs, hvx⟩ := hwi
    have hxN : x < N := by omega
    have hxN1 : x + 1 ≤ N := hxN
    have htk : want.take (i + 1) = want.take i ++ [(x, v)] := by rw [List.take_succ_eq_append_getElem hlt, hxv]
    have hwt : WantOk T (want.take i) := fun w h => hw w (List.mem_of_mem_take h)
    have hsl := setsW_len hV hne hwt hxs
    obtain ⟨l, hl⟩ : ∃ l, l = want.take i := ⟨_, rfl⟩
    rw [← hl] at htk hsl ⊢
    simp -implicitDefEqProofs only [go_sem, dlt_true hlt, not_false_eq_true, hget_skip, hset_skip, List.append_assoc, rowsH_names, hN, hn4, hnT, hn5, pC_div, eg, e4, e6, iA, hlt]
    refine newK_intro fun n9 hn9 => ?_
    try simp -implicitDefEqProofs only [hset, rowsH_names, frt] at hn9
    have hn9 : (¬n9 = n2 ∧ ¬n9 = n4 ∧ ¬n9 = nT ∧ ¬n9 = n5) ∧ n9 ∉ (List.range N).map ns := by simp only [hn9, not_false_eq_true, and_self]
    simp -implicitDefEqProofs only [go_sem, not_false_eq_true, hget_skip, hset_skip, List.append_assoc, rowsH_names, hN, hn4, hnT, hn5, hn9, names_ne hn9.2, hget_rowsE hI hxN, hset_rowsE hI hxN, outC_length, outC_get, hxN, hxN1, hns x hxN]
    refine AW.draw tok hmix ⟨[], [], [], false⟩ (by kernel_rfl) (Has.of_sub (List.nil_sublist _)) ?_
    simp -implicitDefEqProofs only [go_sem, not_false_eq_true, hget_skip, hset_skip, List.append_assoc, rowsH_names, hN, hn4, hnT, hn5, hn9, names_ne hn9.2, hget_rowsE hI hxN, hset_rowsE hI hxN, outC_length, outC_get, hxN, hxN1, hns x hxN]
    have hb := Fp.borrow (B := [(ns x, .row 3 1 (vs x) (csW T l x))]) (xs := [.own (ns x) (vs x), iA v]) (ContainsN_ok (natsI (setsW T l x)) v (by rw [natsI_length]; omega)) (Fzs.cons (Fz.rowS (t := 3) List.mem_cons_self (Fzs.refl _)) (Fzs.cons (.refl _) Fzs.nil))
    refine opK_k hb (has_mem (by simp only [List.mem_cons, List.mem_append]; exact .inr (.inr (.inr (.inr (.inl (List.mem_map.2 ⟨x, List.mem_range.2 hxN, rfl⟩))))))) rfl (Sub.of_eq (by first | rfl | simp -implicitDefEqProofs only [go_sem, iA])) ?_
    have hdm : decide ((v : Int) ∈ natsI (setsW T l x)) = decide (v ∈ setsW T l x) := decide_eq_decide.2 mem_natsI
    rw [hdm]
    by_cases hm : v ∈ setsW T l x
    · have hcs : rowsH N 3 1 ns vs (csW T (l ++ [(x, v)])) = rowsH N 3 1 ns vs (csW T l) := rowsH_congr fun y hy => ⟨rfl, rfl, by
        rw [csW, setsW_snoc, if_neg]
        · rfl
        · rintro ⟨rfl, h⟩; exact h hm⟩
      simp -implicitDefEqProofs only [go_sem, hm, decide_true, wrap_up hlt (by omega)]
      refine ⟨(i + 1, vs), hlt, by simp only; omega, by simp -implicitDefEqProofs only [go_sem], ?_⟩
      simp only [htk, hcs]
      exact ⟨[(n9, .cells 190 [.raw (.int .i64 x), .raw (.int .i64 v)])], by simp only [List.cons_append, List.nil_append, List.append_assoc]; exact List.Perm.refl _⟩
    · simp -implicitDefEqProofs only [go_sem, hm, decide_false]
      refine AW.drawF tok hmix [69] [58, 60] [(n5, .cells 191 [.own nT vT]), (n9, .cells 190 [.raw (.int .i64 x), .raw (.int .i64 v)])] (by kernel_rfl) ?_ ?_
      · exact List.Sublist.cons _ (List.Sublist.cons _ (List.Sublist.cons _ (List.Sublist.cons_cons _ ((List.nil_sublist (rowsH N 3 1 ns vs (csW T l))).append (List.Sublist.refl [_])))))
      simp -implicitDefEqProofs only [go_sem, not_false_eq_true, hget_skip, hset_skip, List.append_assoc, rowsH_names, hN, hn4, hnT, hn5, hn9, names_ne hn9.2, hget_rowsE hI hxN, hset_rowsE hI hxN, outC_length, outC_get, hxN, hxN1, hns x hxN]
      refine opK_lit tok T39 rfl T3 (by decide) (by simp -implicitDefEqProofs only [go_sem, zrep, List.flatten_cons, List.flatten_nil]; rfl) ?_
      simp -implicitDefEqProofs only [go_sem, not_false_eq_true, hget_skip, hset_skip, List.append_assoc, rowsH_names, hN, hn4, hnT, hn5, hn9, names_ne hn9.2, hget_rowsE hI hxN, hset_rowsE hI hxN, outC_length, outC_get, hxN, hxN1, hns x hxN]
      refine opK_append tok rfl rfl (by simp -implicitDefEqProofs only [go_sem, not_false_eq_true, hget_skip, hset_skip, List.append_assoc, rowsH_names, hN, hn4, hnT, hn5, hn9, names_ne hn9.2, hget_rowsE hI hxN, hset_rowsE hI hxN, outC_length, outC_get, hxN, hxN1, hns x hxN]; rfl) rfl T39 rfl T3 rfl (by decide) (by simp only [csW, List.length_map, natsI_length, Nat.div_one, List.length_cons, List.length_nil]; omega) fun v9 => ?_
      have hcs : rowsH N 3 1 ns (upd vs x v9) (upd (csW T l) x (csW T l x ++ [.raw (.int .i64 v)])) = rowsH N 3 1 ns (upd vs x v9) (csW T (l ++ [(x, v)])) := rowsH_congr fun y hy => ⟨rfl, rfl, by
        by_cases e : y = x
        · subst e
          rw [upd_same, csW, csW, setsW_snoc, if_pos ⟨rfl, hm⟩, natsI_snoc, List.map_append]
          rfl
        · rw [upd_ne e, csW, csW, setsW_snoc, if_neg (fun h => e h.1.symm)]⟩
      simp -implicitDefEqProofs only [go_sem, not_false_eq_true, hget_skip, hset_skip, List.append_assoc, rowsH_names, hN, hn4, hnT, hn5, hn9, names_ne hn9.2, hget_rowsE hI hxN, hset_rowsE hI hxN, outC_length, outC_get, hxN, hxN1, hns x hxN, hcs, outC_own hxN, wrap_up hlt (by omega)]
      refine ⟨.inr (List.Sublist.cons _ (List.Sublist.cons _ (List.Sublist.cons _ (List.Sublist.cons_cons _ ((List.nil_sublist (rowsH N 3 1 ns _ _)).append (List.Sublist.refl [_])))))), .inr (List.Sublist.cons _ (List.Sublist.cons _ (List.Sublist.cons _ (List.Sublist.cons_cons _ ((List.nil_sublist (rowsH N 3 1 ns _ _)).append (List.Sublist.refl [_])))))), (i + 1, upd vs x v9), hlt, by simp only; omega, by simp -implicitDefEqProofs only [go_sem], ?_⟩
      simp only [htk]
      exact ⟨[(n9, .cells 190 [.raw (.int .i64 x), .raw (.int .i64 v)])], by simp only [List.cons_append, List.nil_append, List.append_assoc]; exact List.Perm.refl _⟩
  obtain rfl : i = want.length := by omega
  rw [List.take_length]
  have hp0 : 0 < (stC T.sts).length := by rw [stC_length]; omega
  have hc0 : (stC T.sts)[0]? = some (.imm 1 ((natsI (T.acc 0)).map iA)) := by
    have := stC_get0 T.sts 0 hpos
    rw [hV.acc_eq hpos] at this
    simpa [intsA] using this
  have ha0 : 0 < (T.acc 0).length := List.length_pos_iff.2 (hne 0 hpos)
  have hg0 := natsI_at ha0
  simp only [iA, aint] at hg0
  simp -implicitDefEqProofs only [go_sem, dlt_false hlt, not_false_eq_true, hget_skip, hset_skip, List.append_assoc, rowsH_names, hN, hn4, hnT, hn5, hp0, hc0, List.length_map, natsI_length, Nat.div_one, ha0, hg0]
  refine newK_intro fun n10 hn10 => ?_
  try simp -implicitDefEqProofs only [hset, rowsH_names, frt] at hn10
  have hn10 : (¬n10 = n2 ∧ ¬n10 = n4 ∧ ¬n10 = nT ∧ ¬n10 = n5) ∧ n10 ∉ (List.range N).map ns := by simp only [hn10, not_false_eq_true, and_self]
  simp -implicitDefEqProofs only [go_sem, not_false_eq_true, hget_skip, hset_skip, List.append_assoc, rowsH_names, hN, hn4, hnT, hn5, hn10, names_ne hn10.2, pC_div]
  have hF1 := first_ok hne hw hpos
  have hF2 := hV.acc256 hF1.1 hF1.2
  by_cases hwn : want = []
  · have hwn' : decide ((want.length : Int) > 0) = false := by rw [hwn]; rfl
    have hf : wFirst T want = (0, (T.acc 0)[0]) := by rw [hwn]; show (0, (T.acc 0).getD 0 0) = _; rw [gd ha0]
    simp -implicitDefEqProofs only [go_sem, hwn', not_false_eq_true, hget_skip, hset_skip, List.append_assoc, rowsH_names, hN, hn4, hnT, hn5, hn10, names_ne hn10.2]
    refine opK_makeMap rfl fun nM hnM => ?_
    try simp -implicitDefEqProofs only [hset, rowsH_names, frt] at hnM
    simp -implicitDefEqProofs only [go_sem, not_false_eq_true, hget_skip, hset_skip, List.append_assoc, rowsH_names, hN, hn4, hnT, hn5, hn10, names_ne hn10.2, hnM]
    refine opK_insert tok (kv := pairK (wFirst T want)) klW rfl rfl (by simp -implicitDefEqProofs only [go_sem, not_false_eq_true, hget_skip, hset_skip, List.append_assoc, rowsH_names, hN, hn4, hnT, hn5, hn10, names_ne hn10.2, hnM]; rfl) (by rw [hf]; rfl) T192 rfl (keyDW (wFirst T want) (by have := hF1.1; omega) (by have := hF2; omega)) (by simp) ?_
    simp -implicitDefEqProofs only [go_sem, not_false_eq_true, hget_skip, hset_skip, List.append_assoc, rowsH_names, hN, hn4, hnT, hn5, hn10, names_ne hn10.2, hnM]
    refine newK_intro fun n11 hn11 => ?_
    try simp -implicitDefEqProofs only [hset, rowsH_names, frt] at hn11
    have hnM' : (¬nM = n2 ∧ ¬nM = n4 ∧ ¬nM = nT ∧ ¬nM = n5) ∧ nM ∉ (List.range N).map ns := by simp only [hnM, not_false_eq_true, and_self]
    have hn11' : (¬n11 = n2 ∧ ¬n11 = n4 ∧ ¬n11 = nT ∧ ¬n11 = n5) ∧ n11 ∉ (List.range N).map ns := by simp only [hn11, not_false_eq_true, and_self]
    simp -implicitDefEqProofs only [go_sem, not_false_eq_true, hget_skip, hset_skip, List.append_assoc, rowsH_names, hN, hn4, hnT, hn5, hn10, names_ne hn10.2, hnM, hn11, names_ne hnM'.2, names_ne hn11'.2]
    refine opK_litOwn tok rfl T139 rfl T190 (by decide) (by simp -implicitDefEqProofs only [go_sem, zrep, List.flatten_cons, List.flatten_nil]; rfl) fun nQ vQ hnQ => ?_
    try simp -implicitDefEqProofs only [hset, rowsH_names, frt] at hnQ
    simp -implicitDefEqProofs only [go_sem, not_false_eq_true, hget_skip, hset_skip, List.append_assoc, rowsH_names, hN, hn4, hnT, hn5, hn10, names_ne hn10.2, hnM, hn11, names_ne hnM'.2, names_ne hn11'.2, hnQ]
    refine newK_intro fun n12 hn12 => ?_
    try simp -implicitDefEqProofs only [hset, rowsH_names, frt] at hn12
    simp -implicitDefEqProofs only [go_sem, not_false_eq_true, hget_skip, hset_skip, List.append_assoc, rowsH_names, hN, hn4, hnT, hn5, hn10, names_ne hn10.2, hnM, hn11, names_ne hnM'.2, names_ne hn11'.2, hnQ, hn12]
    refine opK_call [] ([(n2, .cells 25 [strsA T.acts, .imm 2 (stC T.sts)]), (n4, .cells 45 [.raw (.slice none 0 0), .raw (.slice none 0 0)]), (nT, .row 39 1 vT (outC N N ns vs)), (n5, .cells 191 [.own nT vT])] ++ (rowsH N 3 1 ns vs (csW T want) ++ [(n10, .cells 190 [.raw (.int .i64 0), .raw (.int .i64 ((T.acc 0)[0] : Nat))]), (nM, .map (mset [] (pairK (wFirst T want)) (.raw (.int .i64 0)))), (n11, .cells 192 [.mp nM]), (nQ, .row 190 2 vQ [.raw (.int .i64 0), .raw (.int .i64 ((T.acc 0)[0] : Nat))]), (n12, .cells 139 [.own nQ vQ])])) rfl (CloneS_own T.acts (by omega)) rfl (Sub.of_eq (by first | rfl | simp -implicitDefEqProofs only [go_sem])) (List.Perm.of_eq (List.append_nil _)) ?_
    rintro xA HA ⟨nA, vA, rfl, rfl⟩ hndA
    have hnA := nd_new hndA
    clear hndA
    try simp -implicitDefEqProofs only [hset, rowsH_names, frt] at hnA
    simp -implicitDefEqProofs only [go_sem, not_false_eq_true, hget_skip, hset_skip, List.append_assoc, rowsH_names, hN, hn4, hnT, hn5, hn10, names_ne hn10.2, hnM, hn11, names_ne hnM'.2, names_ne hn11'.2, hnQ, hn12, hnA]
    refine newK_intro fun n13 hn13 => ?_
    try simp -implicitDefEqProofs only [hset, rowsH_names, frt] at hn13
    simp -implicitDefEqProofs only [go_sem, not_false_eq_true, hget_skip, hset_skip, List.append_assoc, rowsH_names, hN, hn4, hnT, hn5, hn10, names_ne hn10.2, hnM, hn11, names_ne hnM'.2, names_ne hn11'.2, hnQ, hn12, hnA, hn13]
    refine newK_intro fun n14 hn14 => ?_
    try simp -implicitDefEqProofs only [hset, rowsH_names, frt] at hn14
    simp -implicitDefEqProofs only [go_sem, not_false_eq_true, hget_skip, hset_skip, List.append_assoc, rowsH_names, hN, hn4, hnT, hn5, hn10, names_ne hn10.2, hnM, hn11, names_ne hnM'.2, names_ne hn11'.2, hnQ, hn12, hnA, hn13, hn14]
    refine AW.adoptIn (sz := 1) (u := 45) (xs := [.own nA vA, .raw (.slice none 0 0)]) n13 1 98 (by decide) (by simp -implicitDefEqProofs only [go_sem, not_false_eq_true, hget_skip, hset_skip, List.append_assoc, rowsH_names, hN, hn4, hnT, hn5, hn10, names_ne hn10.2, hnM, hn11, names_ne hnM'.2, names_ne hn11'.2, hnQ, hn12, hnA, hn13, hn14]) rfl fun nO hnO => ?_
    try simp -implicitDefEqProofs only [hset, rowsH_names, frt] at hnO
    simp -implicitDefEqProofs only [go_sem, not_false_eq_true, hget_skip, hset_skip, List.append_assoc, rowsH_names, hN, hn4, hnT, hn5, hn10, names_ne hn10.2, hnM, hn11, names_ne hnM'.2, names_ne hn11'.2, hnQ, hn12, hnA, hn13, hn14]
    have hq0 : ([.raw (.int .i64 0), .raw (.int .i64 ((T.acc 0)[0] : Nat))] : List AV) = pC [wFirst T want] := by rw [hf]; rfl
    have hm0 : mset [] (pairK (wFirst T want)) (.raw (.int .i64 0)) = mIdx [wFirst T want] := mIdx_set (q := []) (p := wFirst T want) (by simp)
    rw [hq0, hm0]
    obtain ⟨Q, hQ⟩ : ∃ Q, Q = wQ T k want := ⟨_, rfl⟩
    obtain ⟨F, hF⟩ : ∃ F, F = (nodesA T).length + 1 := ⟨_, rfl⟩
    obtain ⟨hQn, hQo, hQs⟩ := wQ_ok hV hne hw
    have hQl := wQ_len hV hne hw
    rw [← hQ] at hQn hQo hQs hQl
    have hbfs0 : bfsG (fun p => (wSuc T k want p).map (·.2)) F 0 [wFirst T want] = Q := by rw [hQ, hF]; rfl
    have hWl : (witS T k want).sts.length = Q.length := by rw [hQ]; simp [witS]
    obtain ⟨eR, heR⟩ : ∃ eR : Nat → List AV, eR = fun j => pc ((witS T k want).row j) := ⟨_, rfl⟩
    have hO14 : ¬ nO = n14 := by simp only [hnO, not_false_eq_true]
    have h14O : ¬ n14 = nO := fun e => hO14 e.symm
    have hn14' : ¬n14 = n2 ∧ ¬n14 = n4 ∧ ¬n14 = n5 ∧ ¬n14 = nM ∧ ¬n14 = n11 ∧ ¬n14 = nQ ∧ ¬n14 = n12 ∧ ¬n14 = nA ∧ ¬n14 = n13 ∧ ¬n14 = nO := by simp only [hn14, h14O, not_false_eq_true, and_self]
    have hna : (¬n4 = n2) ∧ (¬n5 = n2 ∧ ¬n5 = n4) ∧ (¬nM = n2 ∧ ¬nM = n4 ∧ ¬nM = n5) ∧ (¬n11 = n2 ∧ ¬n11 = n4 ∧ ¬n11 = n5 ∧ ¬n11 = nM) ∧ (¬nQ = n2 ∧ ¬nQ = n4 ∧ ¬nQ = n5 ∧ ¬nQ = nM ∧ ¬nQ = n11) ∧ (¬n12 = n2 ∧ ¬n12 = n4 ∧ ¬n12 = n5 ∧ ¬n12 = nM ∧ ¬n12 = n11 ∧ ¬n12 = nQ) ∧ (¬nA = n2 ∧ ¬nA = n4 ∧ ¬nA = n5 ∧ ¬nA = nM ∧ ¬nA = n11 ∧ ¬nA = nQ ∧ ¬nA = n12) ∧ (¬n13 = n2 ∧ ¬n13 = n4 ∧ ¬n13 = n5 ∧ ¬n13 = nM ∧ ¬n13 = n11 ∧ ¬n13 = nQ ∧ ¬n13 = n12 ∧ ¬n13 = nA) ∧ (¬nO = n2 ∧ ¬nO = n4 ∧ ¬nO = n5 ∧ ¬nO = nM ∧ ¬nO = n11 ∧ ¬nO = nQ ∧ ¬nO = n12 ∧ ¬nO = nA ∧ ¬nO = n13) := by simp only [hn4, hn5, hnM, hn11, hnQ, hn12, hnA, hn13, hnO, not_false_eq_true, and_self]
    refine AW.loopF tok (α := Nat × List Pr × Nat × Nat × Nat × (Nat → Nat) × (Nat → Nat)) (fun a => slots 170 [(2, .ptr n2 0), (4, .ptr n4 0), (5, .ptr n5 0), (11, .ptr n11 0), (12, .ptr n12 0), (13, .ptr n13 0), (14, .ptr a.2.2.2.2.1 0)])
      (fun a => [(n2, .cells 25 [strsA T.acts, .imm 2 (stC T.sts)]), (n4, .cells 45 [.raw (.slice none 0 0), .raw (.slice none 0 0)]), (n5, .cells 191 [.imm 1 (tabW T want)]), (nM, .map (mIdx a.2.1)), (n11, .cells 192 [.mp nM]), (nQ, .row 190 2 a.2.2.1 (pC a.2.1)), (n12, .cells 139 [.own nQ a.2.2.1]), (nA, .row 9 1 vA (T.acts.map sA)), (n13, .cells 45 [.own nA vA, .own nO a.2.2.2.1]), (nO, .row 98 1 a.2.2.2.1 (ownsC a.1 a.2.2.2.2.2.1 a.2.2.2.2.2.2)), (a.2.2.2.2.1, .cells 3 [iA a.1])] ++ rowsH a.1 101 2 a.2.2.2.2.2.1 a.2.2.2.2.2.2 eR)
      (fun a => a.1 ≤ a.2.1.length ∧ a.2.1.Nodup ∧ (∀ p ∈ a.2.1, NodeOk T p) ∧ bfsG (fun p => (wSuc T k want p).map (·.2)) (F - a.1) a.1 a.2.1 = Q ∧ ¬a.2.2.2.2.1 = n2 ∧ ¬a.2.2.2.2.1 = n4 ∧ ¬a.2.2.2.2.1 = n5 ∧ ¬a.2.2.2.2.1 = nM ∧ ¬a.2.2.2.2.1 = n11 ∧ ¬a.2.2.2.2.1 = nQ ∧ ¬a.2.2.2.2.1 = n12 ∧ ¬a.2.2.2.2.1 = nA ∧ ¬a.2.2.2.2.1 = n13 ∧ ¬a.2.2.2.2.1 = nO) (fun a => F - a.1) (0, [wFirst T want], vQ, 0, n14, (fun _ => 0), (fun _ => 0)) ⟨Nat.zero_le _, by simp, fun p hp => by simp at hp; subst hp; exact hF1, hbfs0, hn14'⟩ ?_ ?_
    · refine ⟨[(nT, .row 39 1 vT (outC N N ns vs))] ++ (rowsH N 3 1 ns vs (csW T want) ++ [(n10, .cells 190 (pC [wFirst T want]))]), [(n2, .cells 25 [strsA T.acts, .imm 2 (stC T.sts)]), (n4, .cells 45 [.raw (.slice none 0 0), .raw (.slice none 0 0)]), (n5, .cells 191 [(.own nT vT)]), (nM, .map (mIdx ([wFirst T want]))), (n11, .cells 192 [.mp nM]), (nQ, .row 190 2 vQ (pC ([wFirst T want]))), (n12, .cells 139 [.own nQ vQ]), (nA, .row 9 1 vA (T.acts.map sA)), (n13, .cells 45 [.own nA vA, .own nO 0]), (nO, .row 98 1 0 []), (n14, .cells 3 [iA 0])], ?_, ale_fzs (by simp -implicitDefEqProofs only [go_sem]), ?_⟩
      · classical
        exact List.perm_iff_count.2 fun z => by simp only [iA, aint, List.count_append, List.count_cons, List.count_nil, List.cons_append, List.nil_append]; omega
      · refine FzH.cons (.refl _) (FzH.cons (.refl _) (FzH.cons (.cells (Fzs.cons (Fz.rowS (t := 39) (xs := outC N N ns vs) List.mem_cons_self ?_) Fzs.nil)) (FzH.refl _)))
        unfold tabW outC
        rw [hN]
        refine Fzs.map fun x hx => ?_
        rw [if_pos (List.mem_range.1 hx)]
        exact Fz.rowS (t := 3) (xs := csW T want x) (List.mem_append_right _ (List.mem_append_left _ (List.mem_map.2 ⟨x, hx, rfl⟩))) (Fzs.refl _)
    clear hbfs0 hn14' h14O hO14 hn14 hnO hn13 hnA hn12 hnQ hn11 hn11' hnM hnM' hn10 hn5 hnT hn4 hm0 hq0 vQ
    rintro ⟨i, q, vQ, vO, nI, es, ws⟩ ⟨hi, hq, hqo, hbfs, hnI⟩
    simp only at hi hq hqo hbfs hnI
    have hql := nodup_le q (nodesA T) hq fun p hp => mem_nodesA.2 (hqo p hp)
    have hnal := nodesA_len hV
    have hpre : q <+: Q := hbfs ▸ bfsG_prefix _ _ _
    simp -implicitDefEqProofs only [go_sem, not_false_eq_true, hna, hnI, hN, hget_skip, hset_skip, List.append_assoc, rowsH_names, pC_div, iA]
    by_cases hlt : i < q.length
    rotate_left
    · rw [bfsG_stop (by omega)] at hbfs
      obtain rfl : i = q.length := by omega
      subst hbfs
      simp -implicitDefEqProofs only [go_sem, dlt_false hlt, not_false_eq_true, hna, hnI, hN, hget_skip, hset_skip, List.append_assoc, rowsH_names]
      refine fnPost_ret tok ?_
      simp -implicitDefEqProofs only [go_sem, Tryz.results90, not_false_eq_true, hna, hnI, hN, hget_skip, hset_skip, List.append_assoc, rowsH_names]
      refine ⟨_, ?_, nA, vA, nO, vO, es, ws, rfl, rfl⟩
      rw [hWl, ← heR]
      exact ⟨[(n2, .cells 25 [strsA T.acts, .imm 2 (stC T.sts)]), (n4, .cells 45 [.own nA vA, .own nO vO]), (n5, .cells 191 [.imm 1 (tabW T want)]), (nM, .map (mIdx q)), (n11, .cells 192 [.mp nM]), (nQ, .row 190 2 vQ (pC q)), (n12, .cells 139 [.own nQ vQ]), (n13, .cells 45 [.own nA vA, .own nO vO]), (nI, .cells 3 [.raw (.int .i64 (q.length : Nat))])], by
        classical
        exact List.perm_iff_count.2 fun z => by simp only [show (witS T k want).acts = T.acts from rfl, List.count_append, List.count_cons, List.count_nil, List.cons_append, List.nil_append] <;> omega⟩
    obtain ⟨x, v, hxv⟩ : ∃ x v, q[i] = (x, v) := ⟨_, _, rfl⟩
    have hpo : NodeOk T (x, v) := hxv ▸ hqo _ (List.getElem_mem hlt)
    have hxs : x < T.sts.length := hpo.1
    have hvx : v ∈ T.acc x := hpo.2
    have hv2 := hV.acc256 hxs hvx
    have hvk := hV.acc_lt hxs hvx
    have hfuel : F - i = (F - (i + 1)) + 1 := by omega
    rw [hfuel, bfsG_step hlt, hxv] at hbfs
    have g1 := pC_get1 hlt
    obtain ⟨p1, p2, p3, p4, p5⟩ := pC_in hlt
    rw [hxv] at g1
    simp -implicitDefEqProofs only [go_sem, dlt_true hlt, not_false_eq_true, hna, hnI, hN, hget_skip, hset_skip, List.append_assoc, rowsH_names]
    refine newK_intro fun n15 hn15 => ?_
    try simp -implicitDefEqProofs only [hset, rowsH_names, frt] at hn15
    simp -implicitDefEqProofs only [go_sem, not_false_eq_true, hna, hnI, hN, hget_skip, hset_skip, List.append_assoc, rowsH_names, hn15, pC_div, hlt, g1, p1, p2, p3, p4, p5]
    refine opK_call [] ([(n2, .cells 25 [strsA T.acts, .imm 2 (stC T.sts)]), (n4, .cells 45 [.raw (.slice none 0 0), .raw (.slice none 0 0)]), (n5, .cells 191 [.imm 1 (tabW T want)]), (nM, .map (mIdx q)), (n11, .cells 192 [.mp nM]), (nQ, .row 190 2 vQ (pC q)), (n12, .cells 139 [.own nQ vQ]), (nA, .row 9 1 vA (T.acts.map sA)), (n13, .cells 45 [.own nA vA, .own nO vO]), (nO, .row 98 1 vO (ownsC i es ws)), (nI, .cells 3 [.raw (.int .i64 i)]), (n15, .cells 98 [.raw (.slice none 0 0)])] ++ rowsH i 101 2 es ws eR) rfl (In_ok ((v : Nat) : Int)) rfl (Sub.of_eq (by first | rfl | simp -implicitDefEqProofs only [go_sem, iA])) ?_ ?_
    · classical
      exact List.perm_iff_count.2 fun z => by simp only [List.count_append, List.count_cons, List.count_nil, List.cons_append, List.nil_append, List.append_nil] <;> omega
    rintro c H1' ⟨nC, rfl, rfl⟩ hnC
    simp -implicitDefEqProofs only [go_sem, not_false_eq_true, hna, hnI, hN, hget_skip, hset_skip, List.append_assoc, rowsH_names, hn15]
    refine AW.adoptIn (sz := 2) (u := 98) (xs := [.raw (.slice none 0 0)]) n15 0 101 (by decide) (by simp -implicitDefEqProofs only [go_sem, not_false_eq_true, hna, hnI, hN, hget_skip, hset_skip, List.append_assoc, rowsH_names, hn15]) rfl fun nL hnL => ?_
    try simp -implicitDefEqProofs only [hset, rowsH_names, frt] at hnL
    simp -implicitDefEqProofs only [go_sem, not_false_eq_true, hna, hnI, hN, hget_skip, hset_skip, List.append_assoc, rowsH_names, hn15, hnL]
    refine AW.rangeP tok ([(n2, .cells 25 [strsA T.acts, .imm 2 (stC T.sts)]), (n4, .cells 45 [.raw (.slice none 0 0), .raw (.slice none 0 0)]), (n5, .cells 191 [.imm 1 (tabW T want)]), (nM, .map (mIdx q)), (n11, .cells 192 [.mp nM]), (nQ, .row 190 2 vQ (pC q)), (n12, .cells 139 [.own nQ vQ]), (nA, .row 9 1 vA (T.acts.map sA)), (n13, .cells 45 [.own nA vA, .own nO vO]), (nO, .row 98 1 vO (ownsC i es ws)), (nI, .cells 3 [.raw (.int .i64 i)]), (n15, .cells 98 [.own nL 0]), (nL, .row 101 2 0 (pC (([] : List Pr))))] ++ rowsH i 101 2 es ws eR) [(nC, .cells 3 [iA ((v : Nat) : Int)])] rfl (In_iter k v (by omega) hvk nC) ?_ (fun i hi => by simp)
      (fun j Hx => ∃ q' vQ' l' vL', Hx = [(n2, .cells 25 [strsA T.acts, .imm 2 (stC T.sts)]), (n4, .cells 45 [.raw (.slice none 0 0), .raw (.slice none 0 0)]), (n5, .cells 191 [.imm 1 (tabW T want)]), (nM, .map (mIdx q')), (n11, .cells 192 [.mp nM]), (nQ, .row 190 2 vQ' (pC q')), (n12, .cells 139 [.own nQ vQ']), (nA, .row 9 1 vA (T.acts.map sA)), (n13, .cells 45 [.own nA vA, .own nO vO]), (nO, .row 98 1 vO (ownsC i es ws)), (nI, .cells 3 [.raw (.int .i64 i)]), (n15, .cells 98 [.own nL vL']), (nL, .row 101 2 vL' (pC (l')))] ++ rowsH i 101 2 es ws eR ∧ q' = pushG q ((wSucL T want (x, v) ((bits k v).take j)).map (·.2)) ∧ l' = (wSucL T want (x, v) ((bits k v).take j)).map fun e => (e.1, Q.idxOf e.2))
      (fun e Hx => False) ⟨q, vQ, [], 0, rfl, rfl, rfl⟩ ?_ ?_ ?_
    · classical
      exact List.perm_iff_count.2 fun z => by simp only [pC_nil, List.count_append, List.count_cons, List.count_nil, List.cons_append, List.nil_append]; omega
    · rintro j hj Hx lp ⟨q', vQ', l', vL', rfl, hq', hl'⟩
      have hj' : j < (bits k v).length := by simpa using hj
      simp only [List.getElem_map]
      obtain ⟨a, haa⟩ : ∃ a, a = (bits k v)[j] := ⟨_, rfl⟩
      have hmem : a ∈ bits k v := haa ▸ List.getElem_mem hj'
      obtain ⟨hak, z, hz, hzl⟩ := node_step hV hpo (bits_bit hmem)
      simp only at hz
      have htk : (bits k v).take (j + 1) = (bits k v).take j ++ [a] := by rw [haa]; exact List.take_succ_eq_append_getElem hj'
      have hdr : bits k v = (bits k v).take j ++ ([a] ++ (bits k v).drop (j + 1)) := by rw [List.singleton_append, haa, ← List.drop_eq_getElem_cons hj', List.take_append_drop]
      obtain ⟨Zs, hS⟩ : ∃ Zs, Zs = setsW T want z := ⟨_, rfl⟩
      have hsu := wSucL_snoc (T := T) (want := want) (x, v) ((bits k v).take j) a
      simp only [hz, Int.toNat_natCast, ← hS] at hsu
      rw [← htk] at hsu
      have hsu1 : wSucL T want (x, v) [a] = Zs.map fun u => (a, (z, u)) := by simp [wSucL, hz, hS]
      have hful : wSuc T k want (x, v) = wSucL T want (x, v) ((bits k v).take j) ++ ((Zs.map fun u => (a, (z, u))) ++ wSucL T want (x, v) ((bits k v).drop (j + 1))) := by
        rw [wSuc, ← hsu1, ← wSucL_append, ← wSucL_append, ← hdr]
      have htl8 : ((bits k v).take (j + 1)).length ≤ 8 := by
        have := bits_length k v
        rw [List.length_take]; omega
      have hlen2 := wSucL_len hV hne hw hpo (l := (bits k v).take (j + 1)) (fun b hb => bits_bit (List.mem_of_mem_take hb)) htl8
      rw [hsu, List.length_append, List.length_map] at hlen2
      obtain ⟨base, hbase⟩ : ∃ base, base = wSucL T want (x, v) ((bits k v).take j) := ⟨_, rfl⟩
      rw [← hbase] at hsu hful hlen2 hq' hl'
      have hfok := wSuc_ok hV hne hw hpo
      have hpart : ∀ b, ∃ r, wSuc T k want (x, v) = (base ++ (Zs.take b).map fun u => (a, (z, u))) ++ r := fun b => by
        refine ⟨((Zs.drop b).map fun u => (a, (z, u))) ++ wSucL T want (x, v) ((bits k v).drop (j + 1)), ?_⟩
        rw [hful, List.append_assoc, ← List.append_assoc ((Zs.take b).map _), ← List.map_append, List.take_append_drop]
      have hQb : ∀ b, pushG q ((base ++ (Zs.take b).map fun u => (a, (z, u))).map (·.2)) <+: Q := fun b => by
        obtain ⟨r, hr⟩ := hpart b
        have h1 := bfsG_prefix (S := fun p => (wSuc T k want p).map (·.2)) (F - (i + 1)) (i + 1) (pushG q ((wSuc T k want (x, v)).map (·.2)))
        rw [hbfs, hr, List.map_append, pushG_append] at h1
        exact (pushG_prefix _ _).trans h1
      have hpb : ∀ b, ∀ y ∈ pushG q ((base ++ (Zs.take b).map fun u => (a, (z, u))).map (·.2)), NodeOk T y := fun b y hy => hQo y ((hQb b).subset hy)
      have hnb : ∀ b, (pushG q ((base ++ (Zs.take b).map fun u => (a, (z, u))).map (·.2))).Nodup := fun b => pushG_nodup _ hq
      have hzero : base ++ (Zs.take 0).map (fun u => (a, (z, u))) = base := by simp
      have hlt' : i < q'.length := by
        have := (pushG_prefix (base.map (·.2)) q).length_le
        rw [hq']; omega
      have hqi : q'[i] = (x, v) := by
        have hpx : q <+: q' := hq' ▸ pushG_prefix _ _
        rw [← hxv]; exact (hpx.getElem hlt).symm
      have g0' := pC_get0 hlt'
      rw [hqi] at g0'
      obtain ⟨r1, r2, r3, r4, r5⟩ := pC_in hlt'
      have f1 := stC_get1 T.sts x hxs
      obtain ⟨e3, e4, e5⟩ := stC_in hxs
      have hrl := hV.row _ (List.getElem_mem hxs)
      have x2 := hV.nx_cell hxs hak
      rw [hz] at x2
      have hzN : z < N := by omega
      have hxN : x < N := by omega
      have htg := tabW_get (want := want) hzl
      rw [← hS] at htg
      have htbl := tabW_len T want
      have hSl : Zs.length ≤ 256 := hS ▸ setsW_len hV hne hw hzl
      have hSo : ∀ u ∈ Zs, u ∈ T.acc z := fun u hu => (setsW_ok hne want hw z hzl).2 u (hS ▸ hu)
      rw [← haa]
      simp -implicitDefEqProofs only [go_sem, not_false_eq_true, hna, hnI, hN, hget_skip, hset_skip, List.append_assoc, rowsH_names, hn15, hnL, iA]
      refine AW.draw tok hmix ⟨[], [], [], false⟩ (by kernel_rfl) (Has.of_sub (List.nil_sublist _)) ?_
      simp -implicitDefEqProofs only [go_sem, not_false_eq_true, hna, hnI, hN, hget_skip, hset_skip, List.append_assoc, rowsH_names, hn15, hnL, pC_div, hlt', g0', r1, r2, r3, r4, r5, hxs, hxN, e3, e4, e5, f1, stC_div, intsA, List.length_map, Nat.div_one, hrl, hak, x2, iA, htbl, hzN, htg, natsI_length]
      refine AW.loopG tok (α := Nat × List Pr × Nat × List Pr × Nat) (fun s => slots 170 [(2, .ptr n2 0), (4, .ptr n4 0), (5, .ptr n5 0), (11, .ptr n11 0), (12, .ptr n12 0), (13, .ptr n13 0), (14, .ptr nI 0), (15, .ptr n15 0), (16, iA a), (17, iA z), (124, .imm 1 ((natsI Zs).map iA)), (125, iA Zs.length), (126, iA s.1)])
        (fun s => [(n2, .cells 25 [strsA T.acts, .imm 2 (stC T.sts)]), (n4, .cells 45 [.raw (.slice none 0 0), .raw (.slice none 0 0)]), (n5, .cells 191 [.imm 1 (tabW T want)]), (nM, .map (mIdx s.2.1)), (n11, .cells 192 [.mp nM]), (nQ, .row 190 2 s.2.2.1 (pC s.2.1)), (n12, .cells 139 [.own nQ s.2.2.1]), (nA, .row 9 1 vA (T.acts.map sA)), (n13, .cells 45 [.own nA vA, .own nO vO]), (nO, .row 98 1 vO (ownsC i es ws)), (nI, .cells 3 [.raw (.int .i64 i)]), (n15, .cells 98 [.own nL s.2.2.2.2]), (nL, .row 101 2 s.2.2.2.2 (pC (s.2.2.2.1)))] ++ rowsH i 101 2 es ws eR)
        (fun s => s.1 ≤ Zs.length ∧ s.2.1 = pushG q ((base ++ (Zs.take s.1).map fun u => (a, (z, u))).map (·.2)) ∧ s.2.2.2.1 = (base ++ (Zs.take s.1).map fun u => (a, (z, u))).map fun e => (e.1, Q.idxOf e.2))
        (fun s => Zs.length - s.1) (0, q', vQ', l', vL') ⟨Nat.zero_le _, by simp only [hzero]; exact hq', by simp only [hzero]; exact hl'⟩ (by simp -implicitDefEqProofs only [go_sem, iA]) (List.Sublist.refl _) ?_
      rintro ⟨b, q2, v2, l2, w2⟩ ⟨hb, hq2, hl2⟩
      simp only at hb hq2 hl2
      have hq2n : q2.Nodup := hq2 ▸ hnb b
      have hq2o : ∀ y ∈ q2, NodeOk T y := hq2 ▸ hpb b
      have hq2l := nodup_le q2 (nodesA T) hq2n fun p hp => mem_nodesA.2 (hq2o p hp)
      have hl2l : l2.length ≤ 2048 := by rw [hl2, List.length_map, List.length_append, List.length_map, List.length_take]; omega
      simp -implicitDefEqProofs only [go_sem, iA]
      by_cases hbl : b < Zs.length
      rotate_left
      · obtain rfl : b = Zs.length := by omega
        rw [List.take_length, ← hsu] at hq2 hl2
        simp -implicitDefEqProofs only [go_sem, dlt_false hbl]
        exact ⟨_, List.Sublist.refl _, q2, v2, l2, w2, rfl, hq2, hl2⟩
      obtain ⟨u, hu⟩ : ∃ u, u = Zs[b] := ⟨_, rfl⟩
      have huS : u ∈ Zs := hu ▸ List.getElem_mem hbl
      have hun : NodeOk T (z, u) := ⟨hzl, hSo u huS⟩
      have hu2 := hV.acc256 hzl (hSo u huS)
      have gu := natsI_at hbl
      simp only [iA, aint] at gu
      rw [← hu] at gu
      have htb : Zs.take (b + 1) = Zs.take b ++ [u] := by rw [hu]; exact List.take_succ_eq_append_getElem hbl
      have hpt : base ++ (Zs.take (b + 1)).map (fun u => (a, (z, u))) = (base ++ (Zs.take b).map fun u => (a, (z, u))) ++ [(a, (z, u))] := by rw [htb, List.map_append, ← List.append_assoc]; rfl
      have hq3 : pushG q ((base ++ (Zs.take (b + 1)).map fun u => (a, (z, u))).map (·.2)) = if (z, u) ∈ q2 then q2 else q2 ++ [(z, u)] := by
        rw [hpt, List.map_append, List.map_cons, List.map_nil, pushG_snoc, ← hq2]
        by_cases hmq : (z, u) ∈ q2 <;> simp [hmq]
      have hl3 : (base ++ (Zs.take (b + 1)).map fun u => (a, (z, u))).map (fun e => (e.1, Q.idxOf e.2)) = l2 ++ [(a, Q.idxOf (z, u))] := by
        rw [hpt, List.map_append, ← hl2]; rfl
      have hkd : KeyD Tryz.prog 190 (pairK (z, u)) := keyDW (z, u) (by simp only; omega) (by simp only; omega)
      have hmk := mIdx_keyD hV hq2o
      simp -implicitDefEqProofs only [go_sem, dlt_true hbl, hbl, gu, List.length_map, natsI_length, Nat.div_one, not_false_eq_true, hna, hnI, hN, hget_skip, hset_skip, List.append_assoc, rowsH_names, hn15, hnL]
      refine opK_lookup tok (kv := pairK (z, u)) (m := mIdx q2) klW rfl (by simp -implicitDefEqProofs only [go_sem, not_false_eq_true, hna, hnI, hN, hget_skip, hset_skip, List.append_assoc, rowsH_names, hn15, hnL]) rfl T192 rfl T3 rfl hkd hmk ?_
      have hget := mIdx_get hq2n (z, u)
      by_cases hm : (z, u) ∈ q2
      · rw [if_pos hm] at hget hq3
        have hix : q2.idxOf (z, u) = Q.idxOf (z, u) := (idxOf_pre (hq2 ▸ hQb b) hm).symm
        rw [hix] at hget
        simp -implicitDefEqProofs only [go_sem, zeroA, hget, Option.getD_some, Option.isSome_some, not_false_eq_true, hna, hnI, hN, hget_skip, hset_skip, List.append_assoc, rowsH_names, hn15, hnL]
        refine opK_lit tok T98 rfl T101 (by decide) (by simp -implicitDefEqProofs only [go_sem, zrep, List.flatten_cons, List.flatten_nil]; rfl) ?_
        simp -implicitDefEqProofs only [go_sem, not_false_eq_true, hna, hnI, hN, hget_skip, hset_skip, List.append_assoc, rowsH_names, hn15, hnL]
        refine opK_append tok rfl rfl (by simp -implicitDefEqProofs only [go_sem, not_false_eq_true, hna, hnI, hN, hget_skip, hset_skip, List.append_assoc, rowsH_names, hn15, hnL]; rfl) rfl T98 rfl T101 rfl (by decide) (by simp only [pC_div, List.length_cons, List.length_nil]; omega) fun w3 => ?_
        simp -implicitDefEqProofs only [go_sem, not_false_eq_true, hna, hnI, hN, hget_skip, hset_skip, List.append_assoc, rowsH_names, hn15, hnL, wrap_up hbl (by omega)]
        have es := pC_snoc' l2 (a, Q.idxOf (z, u))
        simp only at es
        rw [es]
        exact ⟨(b + 1, q2, v2, l2 ++ [(a, Q.idxOf (z, u))], w3), ⟨hbl, hq3.symm, hl3.symm⟩, by simp only; omega, by simp -implicitDefEqProofs only [go_sem], List.Sublist.refl _⟩
      · rw [if_neg hm] at hget hq3
        have hpre3 : q2 ++ [(z, u)] <+: Q := hq3 ▸ hQb (b + 1)
        have hix : q2.length = Q.idxOf (z, u) := by
          rw [idxOf_pre hpre3 (by simp), List.idxOf_append, if_neg hm]
          simp
        have hset := mIdx_set hm
        simp -implicitDefEqProofs only [go_sem, zeroA, hget, Option.getD_none, Option.isSome_none, not_false_eq_true, hna, hnI, hN, hget_skip, hset_skip, List.append_assoc, rowsH_names, hn15, hnL, pC_div]
        refine opK_mapUpdate tok (kv := pairK (z, u)) (m := mIdx q2) klW rfl rfl (by simp -implicitDefEqProofs only [go_sem, not_false_eq_true, hna, hnI, hN, hget_skip, hset_skip, List.append_assoc, rowsH_names, hn15, hnL]) rfl T192 rfl hkd hmk ?_
        simp -implicitDefEqProofs only [go_sem, hset, not_false_eq_true, hna, hnI, hN, hget_skip, hset_skip, List.append_assoc, rowsH_names, hn15, hnL]
        refine opK_lit tok T139 rfl T190 (by decide) (by simp -implicitDefEqProofs only [go_sem, zrep, List.flatten_cons, List.flatten_nil]; rfl) ?_
        simp -implicitDefEqProofs only [go_sem, not_false_eq_true, hna, hnI, hN, hget_skip, hset_skip, List.append_assoc, rowsH_names, hn15, hnL]
        refine opK_append tok rfl rfl (by simp -implicitDefEqProofs only [go_sem, not_false_eq_true, hna, hnI, hN, hget_skip, hset_skip, List.append_assoc, rowsH_names, hn15, hnL]; rfl) rfl T139 rfl T190 rfl (by decide) (by simp only [pC_div, List.length_cons, List.length_nil]; omega) fun v3 => ?_
        simp -implicitDefEqProofs only [go_sem, not_false_eq_true, hna, hnI, hN, hget_skip, hset_skip, List.append_assoc, rowsH_names, hn15, hnL]
        refine opK_lit tok T98 rfl T101 (by decide) (by simp -implicitDefEqProofs only [go_sem, zrep, List.flatten_cons, List.flatten_nil]; rfl) ?_
        simp -implicitDefEqProofs only [go_sem, not_false_eq_true, hna, hnI, hN, hget_skip, hset_skip, List.append_assoc, rowsH_names, hn15, hnL]
        refine opK_append tok rfl rfl (by simp -implicitDefEqProofs only [go_sem, not_false_eq_true, hna, hnI, hN, hget_skip, hset_skip, List.append_assoc, rowsH_names, hn15, hnL]; rfl) rfl T98 rfl T101 rfl (by decide) (by simp only [pC_div, List.length_cons, List.length_nil]; omega) fun w3 => ?_
        simp -implicitDefEqProofs only [go_sem, not_false_eq_true, hna, hnI, hN, hget_skip, hset_skip, List.append_assoc, rowsH_names, hn15, hnL, wrap_up hbl (by omega)]
        have es := pC_snoc' l2 (a, q2.length)
        have es2 := pC_snoc' q2 (z, u)
        simp only at es es2
        rw [es, es2, hix]
        exact ⟨(b + 1, q2 ++ [(z, u)], v3, l2 ++ [(a, Q.idxOf (z, u))], w3), ⟨hbl, hq3.symm, hl3.symm⟩, by simp only; omega, by simp -implicitDefEqProofs only [go_sem], List.Sublist.refl _⟩
    · rintro Hx ⟨q', vQ', l', vL', rfl, hq', hl'⟩
      have htake : (bits k v).take ((bits k v).map fun (a : Nat) => [iA (a : Int)]).length = bits k v := by simp
      rw [htake] at hq' hl'
      have hl'E : l' = wE T k want (x, v) := by rw [hl', hQ]; rfl
      have hq'f : q' = pushG q ((wSuc T k want (x, v)).map (·.2)) := hq'
      rw [← hq'f] at hbfs
      have hpreQ : q' <+: Q := hbfs ▸ bfsG_prefix _ _ _
      have hq'n : q'.Nodup := hq'f ▸ pushG_nodup _ hq
      have hq'o : ∀ y ∈ q', NodeOk T y := fun y hy => hQo y (hpreQ.subset hy)
      have hq'l := nodup_le q' (nodesA T) hq'n fun p hp => mem_nodesA.2 (hq'o p hp)
      have hiQ : i < Q.length := Nat.lt_of_lt_of_le hlt hpre.length_le
      have hQi : Q[i] = (x, v) := by rw [← hxv]; exact (hpre.getElem hlt).symm
      have hmQ : (x, v) ∈ Q := hQi ▸ List.getElem_mem hiQ
      have hEn : (wE T k want (x, v)).Nodup := wE_nodup hV hne hw (hQ ▸ hmQ)
      have hEin : ∀ e ∈ wE T k want (x, v), InP k Q.length e := fun e he => by
        obtain ⟨f, hf, rfl⟩ := List.mem_map.1 he
        refine ⟨(wSuc_ok hV hne hw hpo f hf).1, ?_⟩
        rw [hQ]
        exact List.idxOf_lt_length_of_mem (hQ ▸ hQs _ hmQ f hf)
      have hlen := wSucL_len hV hne hw hpo (l := bits k v) (fun b hb => bits_bit hb) (by have := bits_length k v; omega)
      have hll : l'.length ≤ 2048 := by rw [hl', List.length_map]; exact hlen
      simp -implicitDefEqProofs only [go_sem, not_false_eq_true, hna, hnI, hN, hget_skip, hset_skip, List.append_assoc, rowsH_names, hn15, hnL]
      refine opK_call [(nL, .row 101 2 vL' (pC l'))] ([(n2, .cells 25 [strsA T.acts, .imm 2 (stC T.sts)]), (n4, .cells 45 [.raw (.slice none 0 0), .raw (.slice none 0 0)]), (n5, .cells 191 [.imm 1 (tabW T want)]), (nM, .map (mIdx q')), (n11, .cells 192 [.mp nM]), (nQ, .row 190 2 vQ' (pC q')), (n12, .cells 139 [.own nQ vQ']), (nA, .row 9 1 vA (T.acts.map sA)), (n13, .cells 45 [.own nA vA, .own nO vO]), (nO, .row 98 1 vO (ownsC i es ws)), (nI, .cells 3 [.raw (.int .i64 i)]), (n15, .cells 98 [.own nL vL'])] ++ rowsH i 101 2 es ws eR) rfl (SortW_ok nL vL' l' (fun e he => by rw [hl'E] at he; have := hEin e he; exact ⟨by have := this.1; omega, by have := this.2; omega⟩) (by omega)) rfl (Sub.of_eq (by first | rfl | simp -implicitDefEqProofs only [go_sem])) ?_ ?_
      · classical
        exact List.perm_iff_count.2 fun z => by simp only [List.count_append, List.count_cons, List.count_nil, List.cons_append, List.nil_append, List.append_nil] <;> omega
      rintro r H1' ⟨l3, hperm, hsort, rfl⟩ hnr
      have hrow : l3 = wRow T k want (x, v) := by
        rw [wRow, ← hQ]
        exact sorted_mark hEn hEin (hl'E ▸ hperm) hsort
      subst hrow
      simp -implicitDefEqProofs only [go_sem, not_false_eq_true, hna, hnI, hN, hget_skip, hset_skip, List.append_assoc, rowsH_names, hn15, hnL]
      refine opK_lit tok T43 rfl T98 (by decide) (by simp -implicitDefEqProofs only [go_sem, zrep, List.flatten_cons, List.flatten_nil]; rfl) ?_
      simp -implicitDefEqProofs only [go_sem, not_false_eq_true, hna, hnI, hN, hget_skip, hset_skip, List.append_assoc, rowsH_names, hn15, hnL]
      refine opK_append tok rfl rfl (by simp -implicitDefEqProofs only [go_sem, not_false_eq_true, hna, hnI, hN, hget_skip, hset_skip, List.append_assoc, rowsH_names, hn15, hnL]; rfl) rfl T43 rfl T98 rfl (by decide) (by simp only [ownsC_length, Nat.div_one, List.length_cons, List.length_nil]; omega) fun vO' => ?_
      simp -implicitDefEqProofs only [go_sem, not_false_eq_true, hna, hnI, hN, hget_skip, hset_skip, List.append_assoc, rowsH_names, hn15, hnL]
      refine newK_intro fun nJ hnJ => ?_
      try simp -implicitDefEqProofs only [hset, rowsH_names, frt] at hnJ
      have hnJ' : ¬nJ = n2 ∧ ¬nJ = n4 ∧ ¬nJ = n5 ∧ ¬nJ = nM ∧ ¬nJ = n11 ∧ ¬nJ = nQ ∧ ¬nJ = n12 ∧ ¬nJ = nA ∧ ¬nJ = n13 ∧ ¬nJ = nO := by simp only [hnJ, not_false_eq_true, and_self]
      have hltq : i < q'.length := by rw [hq'f]; exact Nat.lt_of_lt_of_le hlt (pushG_prefix _ _).length_le
      simp -implicitDefEqProofs only [go_sem, not_false_eq_true, hna, hnI, hN, hget_skip, hset_skip, List.append_assoc, rowsH_names, hn15, hnL, hnJ, wrap_up hltq (by omega)]
      have hat : ∀ hi : i < (wQ T k want).length, (wQ T k want)[i] = (x, v) := by rw [← hQ]; exact fun _ => hQi
      have hiQ' : i < (wQ T k want).length := by rw [← hQ]; exact hiQ
      have hrw : (witS T k want).row i = wRow T k want (x, v) := by rw [wit_row hiQ', hat hiQ']
      have hF1' : F - (i + 1) < F - i := by omega
      have eRW : rowsH (i + 1) 101 2 (upd es i nL) (upd ws i vL') eR = rowsH i 101 2 es ws eR ++ [(nL, .row 101 2 vL' (pc (wRow T k want (x, v))))] := by
        rw [rowsH_add]
        refine rowsH_congr fun y hy => ⟨rfl, rfl, ?_⟩
        by_cases e : y = i
        · subst e; rw [upd_same, heR]; simp only [hrw]
        · rw [upd_ne e]
      refine ⟨(i + 1, q', vQ', vO', nJ, upd es i nL, upd ws i vL'), ⟨hltq, hq'n, hq'o, hbfs, hnJ'⟩, hF1', [(n15, .cells 98 [.own nL vL']), (nI, .cells 3 [.raw (.int .i64 i)])], [(n2, .cells 25 [strsA T.acts, .imm 2 (stC T.sts)]), (n4, .cells 45 [.raw (.slice none 0 0), .raw (.slice none 0 0)]), (n5, .cells 191 [.imm 1 (tabW T want)]), (nM, .map (mIdx q')), (n11, .cells 192 [.mp nM]), (nQ, .row 190 2 vQ' (pC q')), (n12, .cells 139 [.own nQ vQ']), (nA, .row 9 1 vA (T.acts.map sA)), (n13, .cells 45 [.own nA vA, .own nO vO']), (nO, .row 98 1 vO' (ownsC i es ws ++ [.own nL vL'])), (nJ, .cells 3 [.raw (.int .i64 ((i + 1 : Nat) : Int))])] ++ (rowsH i 101 2 es ws eR ++ [(nL, .row 101 2 vL' (pc (wRow T k want (x, v))))]), ?_, ale_fzs (by simp -implicitDefEqProofs only [go_sem]), ?_⟩
      · classical
        exact List.perm_iff_count.2 fun z => by simp only [List.count_append, List.count_cons, List.count_nil, List.cons_append, List.nil_append] <;> omega
      · simp only [← ownsC_snoc, eRW]
        exact FzH.refl _
    · exact fun e c Hx _ h => h.elim
  · have hwp : 0 < want.length := List.length_pos_iff.2 hwn
    have hwn' : decide ((want.length : Int) > 0) = true := by simp; omega
    obtain ⟨f1, f2, hf⟩ : ∃ f1 f2, wFirst T want = (f1, f2) := ⟨_, _, rfl⟩
    have eg := pC_get hwp
    have hw0 : want[0] = wFirst T want := by cases want with
      | nil => exact absurd rfl hwn
      | cons w l => rfl
    rw [hw0, hf] at eg
    have eg : List.take 2 (pC want) = [.raw (.int .i64 f1), .raw (.int .i64 f2)] := by simpa [iA, aint] using eg
    have e4 : 2 ≤ (pC want).length := by rw [pC_len]; omega
    have e6 : 0 < (pC want).length := by rw [pC_len]; omega
    simp -implicitDefEqProofs only [go_sem, hwn', not_false_eq_true, hget_skip, hset_skip, List.append_assoc, rowsH_names, hN, hn4, hnT, hn5, hn10, names_ne hn10.2, eg, e4, e6, pC_div, hwp]
    refine opK_makeMap rfl fun nM hnM => ?_
    try simp -implicitDefEqProofs only [hset, rowsH_names, frt] at hnM
    simp -implicitDefEqProofs only [go_sem, not_false_eq_true, hget_skip, hset_skip, List.append_assoc, rowsH_names, hN, hn4, hnT, hn5, hn10, names_ne hn10.2, hnM]
    refine opK_insert tok (kv := pairK (wFirst T want)) klW rfl rfl (by simp -implicitDefEqProofs only [go_sem, not_false_eq_true, hget_skip, hset_skip, List.append_assoc, rowsH_names, hN, hn4, hnT, hn5, hn10, names_ne hn10.2, hnM]; rfl) (by rw [hf]; rfl) T192 rfl (keyDW (wFirst T want) (by have := hF1.1; omega) (by have := hF2; omega)) (by simp) ?_
    simp -implicitDefEqProofs only [go_sem, not_false_eq_true, hget_skip, hset_skip, List.append_assoc, rowsH_names, hN, hn4, hnT, hn5, hn10, names_ne hn10.2, hnM]
    refine newK_intro fun n11 hn11 => ?_
    try simp -implicitDefEqProofs only [hset, rowsH_names, frt] at hn11
    have hnM' : (¬nM = n2 ∧ ¬nM = n4 ∧ ¬nM = nT ∧ ¬nM = n5) ∧ nM ∉ (List.range N).map ns := by simp only [hnM, not_false_eq_true, and_self]
    have hn11' : (¬n11 = n2 ∧ ¬n11 = n4 ∧ ¬n11 = nT ∧ ¬n11 = n5) ∧ n11 ∉ (List.range N).map ns := by simp only [hn11, not_false_eq_true, and_self]
    simp -implicitDefEqProofs only [go_sem, not_false_eq_true, hget_skip, hset_skip, List.append_assoc, rowsH_names, hN, hn4, hnT, hn5, hn10, names_ne hn10.2, hnM, hn11, names_ne hnM'.2, names_ne hn11'.2]
    refine opK_litOwn tok rfl T139 rfl T190 (by decide) (by simp -implicitDefEqProofs only [go_sem, zrep, List.flatten_cons, List.flatten_nil]; rfl) fun nQ vQ hnQ => ?_
    try simp -implicitDefEqProofs only [hset, rowsH_names, frt] at hnQ
    simp -implicitDefEqProofs only [go_sem, not_false_eq_true, hget_skip, hset_skip, List.append_assoc, rowsH_names, hN, hn4, hnT, hn5, hn10, names_ne hn10.2, hnM, hn11, names_ne hnM'.2, names_ne hn11'.2, hnQ]
    refine newK_intro fun n12 hn12 => ?_
    try simp -implicitDefEqProofs only [hset, rowsH_names, frt] at hn12
    simp -implicitDefEqProofs only [go_sem, not_false_eq_true, hget_skip, hset_skip, List.append_assoc, rowsH_names, hN, hn4, hnT, hn5, hn10, names_ne hn10.2, hnM, hn11, names_ne hnM'.2, names_ne hn11'.2, hnQ, hn12]
    refine opK_call [] ([(n2, .cells 25 [strsA T.acts, .imm 2 (stC T.sts)]), (n4, .cells 45 [.raw (.slice none 0 0), .raw (.slice none 0 0)]), (nT, .row 39 1 vT (outC N N ns vs)), (n5, .cells 191 [.own nT vT])] ++ (rowsH N 3 1 ns vs (csW T want) ++ [(n10, .cells 190 [.raw (.int .i64 f1), .raw (.int .i64 f2)]), (nM, .map (mset [] (pairK (wFirst T want)) (.raw (.int .i64 0)))), (n11, .cells 192 [.mp nM]), (nQ, .row 190 2 vQ [.raw (.int .i64 f1), .raw (.int .i64 f2)]), (n12, .cells 139 [.own nQ vQ])])) rfl (CloneS_own T.acts (by omega)) rfl (Sub.of_eq (by first | rfl | simp -implicitDefEqProofs only [go_sem])) (List.Perm.of_eq (List.append_nil _)) ?_
    rintro xA HA ⟨nA, vA, rfl, rfl⟩ hndA
    have hnA := nd_new hndA
    clear hndA
    try simp -implicitDefEqProofs only [hset, rowsH_names, frt] at hnA
    simp -implicitDefEqProofs only [go_sem, not_false_eq_true, hget_skip, hset_skip, List.append_assoc, rowsH_names, hN, hn4, hnT, hn5, hn10, names_ne hn10.2, hnM, hn11, names_ne hnM'.2, names_ne hn11'.2, hnQ, hn12, hnA]
    refine newK_intro fun n13 hn13 => ?_
    try simp -implicitDefEqProofs only [hset, rowsH_names, frt] at hn13
    simp -implicitDefEqProofs only [go_sem, not_false_eq_true, hget_skip, hset_skip, List.append_assoc, rowsH_names, hN, hn4, hnT, hn5, hn10, names_ne hn10.2, hnM, hn11, names_ne hnM'.2, names_ne hn11'.2, hnQ, hn12, hnA, hn13]
    refine newK_intro fun n14 hn14 => ?_
    try simp -implicitDefEqProofs only [hset, rowsH_names, frt] at hn14
    simp -implicitDefEqProofs only [go_sem, not_false_eq_true, hget_skip, hset_skip, List.append_assoc, rowsH_names, hN, hn4, hnT, hn5, hn10, names_ne hn10.2, hnM, hn11, names_ne hnM'.2, names_ne hn11'.2, hnQ, hn12, hnA, hn13, hn14]
    refine AW.adoptIn (sz := 1) (u := 45) (xs := [.own nA vA, .raw (.slice none 0 0)]) n13 1 98 (by decide) (by simp -implicitDefEqProofs only [go_sem, not_false_eq_true, hget_skip, hset_skip, List.append_assoc, rowsH_names, hN, hn4, hnT, hn5, hn10, names_ne hn10.2, hnM, hn11, names_ne hnM'.2, names_ne hn11'.2, hnQ, hn12, hnA, hn13, hn14]) rfl fun nO hnO => ?_
    try simp -implicitDefEqProofs only [hset, rowsH_names, frt] at hnO
    simp -implicitDefEqProofs only [go_sem, not_false_eq_true, hget_skip, hset_skip, List.append_assoc, rowsH_names, hN, hn4, hnT, hn5, hn10, names_ne hn10.2, hnM, hn11, names_ne hnM'.2, names_ne hn11'.2, hnQ, hn12, hnA, hn13, hn14]
    have hq0 : ([.raw (.int .i64 f1), .raw (.int .i64 f2)] : List AV) = pC [wFirst T want] := by rw [hf]; rfl
    have hm0 : mset [] (pairK (wFirst T want)) (.raw (.int .i64 0)) = mIdx [wFirst T want] := mIdx_set (q := []) (p := wFirst T want) (by simp)
    rw [hq0, hm0]
    obtain ⟨Q, hQ⟩ : ∃ Q, Q = wQ T k want := ⟨_, rfl⟩
    obtain ⟨F, hF⟩ : ∃ F, F = (nodesA T).length + 1 := ⟨_, rfl⟩
    obtain ⟨hQn, hQo, hQs⟩ := wQ_ok hV hne hw
    have hQl := wQ_len hV hne hw
    rw [← hQ] at hQn hQo hQs hQl
    have hbfs0 : bfsG (fun p => (wSuc T k want p).map (·.2)) F 0 [wFirst T want] = Q := by rw [hQ, hF]; rfl
    have hWl : (witS T k want).sts.length = Q.length := by rw [hQ]; simp [witS]
    obtain ⟨eR, heR⟩ : ∃ eR : Nat → List AV, eR = fun j => pc ((witS T k want).row j) := ⟨_, rfl⟩
    have hO14 : ¬ nO = n14 := by simp only [hnO, not_false_eq_true]
    have h14O : ¬ n14 = nO := fun e => hO14 e.symm
    have hn14' : ¬n14 = n2 ∧ ¬n14 = n4 ∧ ¬n14 = n5 ∧ ¬n14 = nM ∧ ¬n14 = n11 ∧ ¬n14 = nQ ∧ ¬n14 = n12 ∧ ¬n14 = nA ∧ ¬n14 = n13 ∧ ¬n14 = nO := by simp only [hn14, h14O, not_false_eq_true, and_self]
    have hna : (¬n4 = n2) ∧ (¬n5 = n2 ∧ ¬n5 = n4) ∧ (¬nM = n2 ∧ ¬nM = n4 ∧ ¬nM = n5) ∧ (¬n11 = n2 ∧ ¬n11 = n4 ∧ ¬n11 = n5 ∧ ¬n11 = nM) ∧ (¬nQ = n2 ∧ ¬nQ = n4 ∧ ¬nQ = n5 ∧ ¬nQ = nM ∧ ¬nQ = n11) ∧ (¬n12 = n2 ∧ ¬n12 = n4 ∧ ¬n12 = n5 ∧ ¬n12 = nM ∧ ¬n12 = n11 ∧ ¬n12 = nQ) ∧ (¬nA = n2 ∧ ¬nA = n4 ∧ ¬nA = n5 ∧ ¬nA = nM ∧ ¬nA = n11 ∧ ¬nA = nQ ∧ ¬nA = n12) ∧ (¬n13 = n2 ∧ ¬n13 = n4 ∧ ¬n13 = n5 ∧ ¬n13 = nM ∧ ¬n13 = n11 ∧ ¬n13 = nQ ∧ ¬n13 = n12 ∧ ¬n13 = nA) ∧ (¬nO = n2 ∧ ¬nO = n4 ∧ ¬nO = n5 ∧ ¬nO = nM ∧ ¬nO = n11 ∧ ¬nO = nQ ∧ ¬nO = n12 ∧ ¬nO = nA ∧ ¬nO = n13) := by simp only [hn4, hn5, hnM, hn11, hnQ, hn12, hnA, hn13, hnO, not_false_eq_true, and_self]
    refine AW.loopF tok (α := Nat × List Pr × Nat × Nat × Nat × (Nat → Nat) × (Nat → Nat)) (fun a => slots 170 [(2, .ptr n2 0), (4, .ptr n4 0), (5, .ptr n5 0), (11, .ptr n11 0), (12, .ptr n12 0), (13, .ptr n13 0), (14, .ptr a.2.2.2.2.1 0)])
      (fun a => [(n2, .cells 25 [strsA T.acts, .imm 2 (stC T.sts)]), (n4, .cells 45 [.raw (.slice none 0 0), .raw (.slice none 0 0)]), (n5, .cells 191 [.imm 1 (tabW T want)]), (nM, .map (mIdx a.2.1)), (n11, .cells 192 [.mp nM]), (nQ, .row 190 2 a.2.2.1 (pC a.2.1)), (n12, .cells 139 [.own nQ a.2.2.1]), (nA, .row 9 1 vA (T.acts.map sA)), (n13, .cells 45 [.own nA vA, .own nO a.2.2.2.1]), (nO, .row 98 1 a.2.2.2.1 (ownsC a.1 a.2.2.2.2.2.1 a.2.2.2.2.2.2)), (a.2.2.2.2.1, .cells 3 [iA a.1])] ++ rowsH a.1 101 2 a.2.2.2.2.2.1 a.2.2.2.2.2.2 eR)
      (fun a => a.1 ≤ a.2.1.length ∧ a.2.1.Nodup ∧ (∀ p ∈ a.2.1, NodeOk T p) ∧ bfsG (fun p => (wSuc T k want p).map (·.2)) (F - a.1) a.1 a.2.1 = Q ∧ ¬a.2.2.2.2.1 = n2 ∧ ¬a.2.2.2.2.1 = n4 ∧ ¬a.2.2.2.2.1 = n5 ∧ ¬a.2.2.2.2.1 = nM ∧ ¬a.2.2.2.2.1 = n11 ∧ ¬a.2.2.2.2.1 = nQ ∧ ¬a.2.2.2.2.1 = n12 ∧ ¬a.2.2.2.2.1 = nA ∧ ¬a.2.2.2.2.1 = n13 ∧ ¬a.2.2.2.2.1 = nO) (fun a => F - a.1) (0, [wFirst T want], vQ, 0, n14, (fun _ => 0), (fun _ => 0)) ⟨Nat.zero_le _, by simp, fun p hp => by simp at hp; subst hp; exact hF1, hbfs0, hn14'⟩ ?_ ?_
    · refine ⟨[(nT, .row 39 1 vT (outC N N ns vs))] ++ (rowsH N 3 1 ns vs (csW T want) ++ [(n10, .cells 190 (pC [wFirst T want]))]), [(n2, .cells 25 [strsA T.acts, .imm 2 (stC T.sts)]), (n4, .cells 45 [.raw (.slice none 0 0), .raw (.slice none 0 0)]), (n5, .cells 191 [(.own nT vT)]), (nM, .map (mIdx ([wFirst T want]))), (n11, .cells 192 [.mp nM]), (nQ, .row 190 2 vQ (pC ([wFirst T want]))), (n12, .cells 139 [.own nQ vQ]), (nA, .row 9 1 vA (T.acts.map sA)), (n13, .cells 45 [.own nA vA, .own nO 0]), (nO, .row 98 1 0 []), (n14, .cells 3 [iA 0])], ?_, ale_fzs (by simp -implicitDefEqProofs only [go_sem]), ?_⟩
      · classical
        exact List.perm_iff_count.2 fun z => by simp only [iA, aint, List.count_append, List.count_cons, List.count_nil, List.cons_append, List.nil_append]; omega
      · refine FzH.cons (.refl _) (FzH.cons (.refl _) (FzH.cons (.cells (Fzs.cons (Fz.rowS (t := 39) (xs := outC N N ns vs) List.mem_cons_self ?_) Fzs.nil)) (FzH.refl _)))
        unfold tabW outC
        rw [hN]
        refine Fzs.map fun x hx => ?_
        rw [if_pos (List.mem_range.1 hx)]
        exact Fz.rowS (t := 3) (xs := csW T want x) (List.mem_append_right _ (List.mem_append_left _ (List.mem_map.2 ⟨x, hx, rfl⟩))) (Fzs.refl _)
    clear hbfs0 hn14' h14O hO14 hn14 hnO hn13 hnA hn12 hnQ hn11 hn11' hnM hnM' hn10 hn5 hnT hn4 hm0 hq0 vQ
    rintro ⟨i, q, vQ, vO, nI, es, ws⟩ ⟨hi, hq, hqo, hbfs, hnI⟩
    simp only at hi hq hqo hbfs hnI
    have hql := nodup_le q (nodesA T) hq fun p hp => mem_nodesA.2 (hqo p hp)
    have hnal := nodesA_len hV
    have hpre : q <+: Q := hbfs ▸ bfsG_prefix _ _ _
    simp -implicitDefEqProofs only [go_sem, not_false_eq_true, hna, hnI, hN, hget_skip, hset_skip, List.append_assoc, rowsH_names, pC_div, iA]
    by_cases hlt : i < q.length
    rotate_left
    · rw [bfsG_stop (by omega)] at hbfs
      obtain rfl : i = q.length := by omega
      subst hbfs
      simp -implicitDefEqProofs only [go_sem, dlt_false hlt, not_false_eq_true, hna, hnI, hN, hget_skip, hset_skip, List.append_assoc, rowsH_names]
      refine fnPost_ret tok ?_
      simp -implicitDefEqProofs only [go_sem, Tryz.results90, not_false_eq_true, hna, hnI, hN, hget_skip, hset_skip, List.append_assoc, rowsH_names]
      refine ⟨_, ?_, nA, vA, nO, vO, es, ws, rfl, rfl⟩
      rw [hWl, ← heR]
      exact ⟨[(n2, .cells 25 [strsA T.acts, .imm 2 (stC T.sts)]), (n4, .cells 45 [.own nA vA, .own nO vO]), (n5, .cells 191 [.imm 1 (tabW T want)]), (nM, .map (mIdx q)), (n11, .cells 192 [.mp nM]), (nQ, .row 190 2 vQ (pC q)), (n12, .cells 139 [.own nQ vQ]), (n13, .cells 45 [.own nA vA, .own nO vO]), (nI, .cells 3 [.raw (.int .i64 (q.length : Nat))])], by
        classical
        exact List.perm_iff_count.2 fun z => by simp only [show (witS T k want).acts = T.acts from rfl, List.count_append, List.count_cons, List.count_nil, List.cons_append, List.nil_append] <;> omega⟩
    obtain ⟨x, v, hxv⟩ : ∃ x v, q[i] = (x, v) := ⟨_, _, rfl⟩
    have hpo : NodeOk T (x, v) := hxv ▸ hqo _ (List.getElem_mem hlt)
    have hxs : x < T.sts.length := hpo.1
    have hvx : v ∈ T.acc x := hpo.2
    have hv2 := hV.acc256 hxs hvx
    have hvk := hV.acc_lt hxs hvx
    have hfuel : F - i = (F - (i + 1)) + 1 := by omega
    rw [hfuel, bfsG_step hlt, hxv] at hbfs
    have g1 := pC_get1 hlt
    obtain ⟨p1, p2, p3, p4, p5⟩ := pC_in hlt
    rw [hxv] at g1
    simp -implicitDefEqProofs only [go_sem, dlt_true hlt, not_false_eq_true, hna, hnI, hN, hget_skip, hset_skip, List.append_assoc, rowsH_names]
    refine newK_intro fun n15 hn15 => ?_
    try simp -implicitDefEqProofs only [hset, rowsH_names, frt] at hn15
    simp -implicitDefEqProofs only [go_sem, not_false_eq_true, hna, hnI, hN, hget_skip, hset_skip, List.append_assoc, rowsH_names, hn15, pC_div, hlt, g1, p1, p2, p3, p4, p5]
    refine opK_call [] ([(n2, .cells 25 [strsA T.acts, .imm 2 (stC T.sts)]), (n4, .cells 45 [.raw (.slice none 0 0), .raw (.slice none 0 0)]), (n5, .cells 191 [.imm 1 (tabW T want)]), (nM, .map (mIdx q)), (n11, .cells 192 [.mp nM]), (nQ, .row 190 2 vQ (pC q)), (n12, .cells 139 [.own nQ vQ]), (nA, .row 9 1 vA (T.acts.map sA)), (n13, .cells 45 [.own nA vA, .own nO vO]), (nO, .row 98 1 vO (ownsC i es ws)), (nI, .cells 3 [.raw (.int .i64 i)]), (n15, .cells 98 [.raw (.slice none 0 0)])] ++ rowsH i 101 2 es ws eR) rfl (In_ok ((v : Nat) : Int)) rfl (Sub.of_eq (by first | rfl | simp -implicitDefEqProofs only [go_sem, iA])) ?_ ?_
    · classical
      exact List.perm_iff_count.2 fun z => by simp only [List.count_append, List.count_cons, List.count_nil, List.cons_append, List.nil_append, List.append_nil] <;> omega
    rintro c H1' ⟨nC, rfl, rfl⟩ hnC
    simp -implicitDefEqProofs only [go_sem, not_false_eq_true, hna, hnI, hN, hget_skip, hset_skip, List.append_assoc, rowsH_names, hn15]
    refine AW.adoptIn (sz := 2) (u := 98) (xs := [.raw (.slice none 0 0)]) n15 0 101 (by decide) (by simp -implicitDefEqProofs only [go_sem, not_false_eq_true, hna, hnI, hN, hget_skip, hset_skip, List.append_assoc, rowsH_names, hn15]) rfl fun nL hnL => ?_
    try simp -implicitDefEqProofs only [hset, rowsH_names, frt] at hnL
    simp -implicitDefEqProofs only [go_sem, not_false_eq_true, hna, hnI, hN, hget_skip, hset_skip, List.append_assoc, rowsH_names, hn15, hnL]
    refine AW.rangeP tok ([(n2, .cells 25 [strsA T.acts, .imm 2 (stC T.sts)]), (n4, .cells 45 [.raw (.slice none 0 0), .raw (.slice none 0 0)]), (n5, .cells 191 [.imm 1 (tabW T want)]), (nM, .map (mIdx q)), (n11, .cells 192 [.mp nM]), (nQ, .row 190 2 vQ (pC q)), (n12, .cells 139 [.own nQ vQ]), (nA, .row 9 1 vA (T.acts.map sA)), (n13, .cells 45 [.own nA vA, .own nO vO]), (nO, .row 98 1 vO (ownsC i es ws)), (nI, .cells 3 [.raw (.int .i64 i)]), (n15, .cells 98 [.own nL 0]), (nL, .row 101 2 0 (pC (([] : List Pr))))] ++ rowsH i 101 2 es ws eR) [(nC, .cells 3 [iA ((v : Nat) : Int)])] rfl (In_iter k v (by omega) hvk nC) ?_ (fun i hi => by simp)
      (fun j Hx => ∃ q' vQ' l' vL', Hx = [(n2, .cells 25 [strsA T.acts, .imm 2 (stC T.sts)]), (n4, .cells 45 [.raw (.slice none 0 0), .raw (.slice none 0 0)]), (n5, .cells 191 [.imm 1 (tabW T want)]), (nM, .map (mIdx q')), (n11, .cells 192 [.mp nM]), (nQ, .row 190 2 vQ' (pC q')), (n12, .cells 139 [.own nQ vQ']), (nA, .row 9 1 vA (T.acts.map sA)), (n13, .cells 45 [.own nA vA, .own nO vO]), (nO, .row 98 1 vO (ownsC i es ws)), (nI, .cells 3 [.raw (.int .i64 i)]), (n15, .cells 98 [.own nL vL']), (nL, .row 101 2 vL' (pC (l')))] ++ rowsH i 101 2 es ws eR ∧ q' = pushG q ((wSucL T want (x, v) ((bits k v).take j)).map (·.2)) ∧ l' = (wSucL T want (x, v) ((bits k v).take j)).map fun e => (e.1, Q.idxOf e.2))
      (fun e Hx => False) ⟨q, vQ, [], 0, rfl, rfl, rfl⟩ ?_ ?_ ?_
    · classical
      exact List.perm_iff_count.2 fun z => by simp only [pC_nil, List.count_append, List.count_cons, List.count_nil, List.cons_append, List.nil_append]; omega
    · rintro j hj Hx lp ⟨q', vQ', l', vL', rfl, hq', hl'⟩
      have hj' : j < (bits k v).length := by simpa using hj
      simp only [List.getElem_map]
      obtain ⟨a, haa⟩ : ∃ a, a = (bits k v)[j] := ⟨_, rfl⟩
      have hmem : a ∈ bits k v := haa ▸ List.getElem_mem hj'
      obtain ⟨hak, z, hz, hzl⟩ := node_step hV hpo (bits_bit hmem)
      simp only at hz
      have htk : (bits k v).take (j + 1) = (bits k v).take j ++ [a] := by rw [haa]; exact List.take_succ_eq_append_getElem hj'
      have hdr : bits k v = (bits k v).take j ++ ([a] ++ (bits k v).drop (j + 1)) := by rw [List.singleton_append, haa, ← List.drop_eq_getElem_cons hj', List.take_append_drop]
      obtain ⟨Zs, hS⟩ : ∃ Zs, Zs = setsW T want z := ⟨_, rfl⟩
      have hsu := wSucL_snoc (T := T) (want := want) (x, v) ((bits k v).take j) a
      simp only [hz, Int.toNat_natCast, ← hS] at hsu
      rw [← htk] at hsu
      have hsu1 : wSucL T want (x, v) [a] = Zs.map fun u => (a, (z, u)) := by simp [wSucL, hz, hS]
      have hful : wSuc T k want (x, v) = wSucL T want (x, v) ((bits k v).take j) ++ ((Zs.map fun u => (a, (z, u))) ++ wSucL T want (x, v) ((bits k v).drop (j + 1))) := by
        rw [wSuc, ← hsu1, ← wSucL_append, ← wSucL_append, ← hdr]
      have htl8 : ((bits k v).take (j + 1)).length ≤ 8 := by
        have := bits_length k v
        rw [List.length_take]; omega
      have hlen2 := wSucL_len hV hne hw hpo (l := (bits k v).take (j + 1)) (fun b hb => bits_bit (List.mem_of_mem_take hb)) htl8
      rw [hsu, List.length_append, List.length_map] at hlen2
      obtain ⟨base, hbase⟩ : ∃ base, base = wSucL T want (x, v) ((bits k v).take j) := ⟨_, rfl⟩
      rw [← hbase] at hsu hful hlen2 hq' hl'
      have hfok := wSuc_ok hV hne hw hpo
      have hpart : ∀ b, ∃ r, wSuc T k want (x, v) = (base ++ (Zs.take b).map fun u => (a, (z, u))) ++ r := fun b => by
        refine ⟨((Zs.drop b).map fun u => (a, (z, u))) ++ wSucL T want (x, v) ((bits k v).drop (j + 1)), ?_⟩
        rw [hful, List.append_assoc, ← List.append_assoc ((Zs.take b).map _), ← List.map_append, List.take_append_drop]
      have hQb : ∀ b, pushG q ((base ++ (Zs.take b).map fun u => (a, (z, u))).map (·.2)) <+: Q := fun b => by
        obtain ⟨r, hr⟩ := hpart b
        have h1 := bfsG_prefix (S := fun p => (wSuc T k want p).map (·.2)) (F - (i + 1)) (i + 1) (pushG q ((wSuc T k want (x, v)).map (·.2)))
        rw [hbfs, hr, List.map_append, pushG_append] at h1
        exact (pushG_prefix _ _).trans h1
      have hpb : ∀ b, ∀ y ∈ pushG q ((base ++ (Zs.take b).map fun u => (a, (z, u))).map (·.2)), NodeOk T y := fun b y hy => hQo y ((hQb b).subset hy)
      have hnb : ∀ b, (pushG q ((base ++ (Zs.take b).map fun u => (a, (z, u))).map (·.2))).Nodup := fun b => pushG_nodup _ hq
      have hzero : base ++ (Zs.take 0).map (fun u => (a, (z, u))) = base := by simp
      have hlt' : i < q'.length := by
        have := (pushG_prefix (base.map (·.2)) q).length_le
        rw [hq']; omega
      have hqi : q'[i] = (x, v) := by
        have hpx : q <+: q' := hq' ▸ pushG_prefix _ _
        rw [← hxv]; exact (hpx.getElem hlt).symm
      have g0' := pC_get0 hlt'
      rw [hqi] at g0'
      obtain ⟨r1, r2, r3, r4, r5⟩ := pC_in hlt'
      have f1 := stC_get1 T.sts x hxs
      obtain ⟨e3, e4, e5⟩ := stC_in hxs
      have hrl := hV.row _ (List.getElem_mem hxs)
      have x2 := hV.nx_cell hxs hak
      rw [hz] at x2
      have hzN : z < N := by omega
      have hxN : x < N := by omega
      have htg := tabW_get (want := want) hzl
      rw [← hS] at htg
      have htbl := tabW_len T want
      have hSl : Zs.length ≤ 256 := hS ▸ setsW_len hV hne hw hzl
      have hSo : ∀ u ∈ Zs, u ∈ T.acc z := fun u hu => (setsW_ok hne want hw z hzl).2 u (hS ▸ hu)
      rw [← haa]
      simp -implicitDefEqProofs only [go_sem, not_false_eq_true, hna, hnI, hN, hget_skip, hset_skip, List.append_assoc, rowsH_names, hn15, hnL, iA]
      refine AW.draw tok hmix ⟨[], [], [], false⟩ (by kernel_rfl) (Has.of_sub (List.nil_sublist _)) ?_
      simp -implicitDefEqProofs only [go_sem, not_false_eq_true, hna, hnI, hN, hget_skip, hset_skip, List.append_assoc, rowsH_names, hn15, hnL, pC_div, hlt', g0', r1, r2, r3, r4, r5, hxs, hxN, e3, e4, e5, f1, stC_div, intsA, List.length_map, Nat.div_one, hrl, hak, x2, iA, htbl, hzN, htg, natsI_length]
      refine AW.loopG tok (α := Nat × List Pr × Nat × List Pr × Nat) (fun s => slots 170 [(2, .ptr n2 0), (4, .ptr n4 0), (5, .ptr n5 0), (11, .ptr n11 0), (12, .ptr n12 0), (13, .ptr n13 0), (14, .ptr nI 0), (15, .ptr n15 0), (16, iA a), (17, iA z), (124, .imm 1 ((natsI Zs).map iA)), (125, iA Zs.length), (126, iA s.1)])
        (fun s => [(n2, .cells 25 [strsA T.acts, .imm 2 (stC T.sts)]), (n4, .cells 45 [.raw (.slice none 0 0), .raw (.slice none 0 0)]), (n5, .cells 191 [.imm 1 (tabW T want)]), (nM, .map (mIdx s.2.1)), (n11, .cells 192 [.mp nM]), (nQ, .row 190 2 s.2.2.1 (pC s.2.1)), (n12, .cells 139 [.own nQ s.2.2.1]), (nA, .row 9 1 vA (T.acts.map sA)), (n13, .cells 45 [.own nA vA, .own nO vO]), (nO, .row 98 1 vO (ownsC i es ws)), (nI, .cells 3 [.raw (.int .i64 i)]), (n15, .cells 98 [.own nL s.2.2.2.2]), (nL, .row 101 2 s.2.2.2.2 (pC (s.2.2.2.1)))] ++ rowsH i 101 2 es ws eR)
        (fun s => s.1 ≤ Zs.length ∧ s.2.1 = pushG q ((base ++ (Zs.take s.1).map fun u => (a, (z, u))).map (·.2)) ∧ s.2.2.2.1 = (base ++ (Zs.take s.1).map fun u => (a, (z, u))).map fun e => (e.1, Q.idxOf e.2))
        (fun s => Zs.length - s.1) (0, q', vQ', l', vL') ⟨Nat.zero_le _, by simp only [hzero]; exact hq', by simp only [hzero]; exact hl'⟩ (by simp -implicitDefEqProofs only [go_sem, iA]) (List.Sublist.refl _) ?_
      rintro ⟨b, q2, v2, l2, w2⟩ ⟨hb, hq2, hl2⟩
      simp only at hb hq2 hl2
      have hq2n : q2.Nodup := hq2 ▸ hnb b
      have hq2o : ∀ y ∈ q2, NodeOk T y := hq2 ▸ hpb b
      have hq2l := nodup_le q2 (nodesA T) hq2n fun p hp => mem_nodesA.2 (hq2o p hp)
      have hl2l : l2.length ≤ 2048 := by rw [hl2, List.length_map, List.length_append, List.length_map, List.length_take]; omega
      simp -implicitDefEqProofs only [go_sem, iA]
      by_cases hbl : b < Zs.length
      rotate_left
      · obtain rfl : b = Zs.length := by omega
        rw [List.take_length, ← hsu] at hq2 hl2
        simp -implicitDefEqProofs only [go_sem, dlt_false hbl]
        exact ⟨_, List.Sublist.refl _, q2, v2, l2, w2, rfl, hq2, hl2⟩
      obtain ⟨u, hu⟩ : ∃ u, u = Zs[b] := ⟨_, rfl⟩
      have huS : u ∈ Zs := hu ▸ List.getElem_mem hbl
      have hun : NodeOk T (z, u) := ⟨hzl, hSo u huS⟩
      have hu2 := hV.acc256 hzl (hSo u huS)
      have gu := natsI_at hbl
      simp only [iA, aint] at gu
      rw [← hu] at gu
      have htb : Zs.take (b + 1) = Zs.take b ++ [u] := by rw [hu]; exact List.take_succ_eq_append_getElem hbl
      have hpt : base ++ (Zs.take (b + 1)).map (fun u => (a, (z, u))) = (base ++ (Zs.take b).map fun u => (a, (z, u))) ++ [(a, (z, u))] := by rw [htb, List.map_append, ← List.append_assoc]; rfl
      have hq3 : pushG q ((base ++ (Zs.take (b + 1)).map fun u => (a, (z, u))).map (·.2)) = if (z, u) ∈ q2 then q2 else q2 ++ [(z, u)] := by
        rw [hpt, List.map_append, List.map_cons, List.map_nil, pushG_snoc, ← hq2]
        by_cases hmq : (z, u) ∈ q2 <;> simp [hmq]
      have hl3 : (base ++ (Zs.take (b + 1)).map fun u => (a, (z, u))).map (fun e => (e.1, Q.idxOf e.2)) = l2 ++ [(a, Q.idxOf (z, u))] := by
        rw [hpt, List.map_append, ← hl2]; rfl
      have hkd : KeyD Tryz.prog 190 (pairK (z, u)) := keyDW (z, u) (by simp only; omega) (by simp only; omega)
      have hmk := mIdx_keyD hV hq2o
      simp -implicitDefEqProofs only [go_sem, dlt_true hbl, hbl, gu, List.length_map, natsI_length, Nat.div_one, not_false_eq_true, hna, hnI, hN, hget_skip, hset_skip, List.append_assoc, rowsH_names, hn15, hnL]
      refine opK_lookup tok (kv := pairK (z, u)) (m := mIdx q2) klW rfl (by simp -implicitDefEqProofs only [go_sem, not_false_eq_true, hna, hnI, hN, hget_skip, hset_skip, List.append_assoc, rowsH_names, hn15, hnL]) rfl T192 rfl T3 rfl hkd hmk ?_
      have hget := mIdx_get hq2n (z, u)
      by_cases hm : (z, u) ∈ q2
      · rw [if_pos hm] at hget hq3
        have hix : q2.idxOf (z, u) = Q.idxOf (z, u) := (idxOf_pre (hq2 ▸ hQb b) hm).symm
        rw [hix] at hget
        simp -implicitDefEqProofs only [go_sem, zeroA, hget, Option.getD_some, Option.isSome_some, not_false_eq_true, hna, hnI, hN, hget_skip, hset_skip, List.append_assoc, rowsH_names, hn15, hnL]
        refine opK_lit tok T98 rfl T101 (by decide) (by simp -implicitDefEqProofs only [go_sem, zrep, List.flatten_cons, List.flatten_nil]; rfl) ?_
        simp -implicitDefEqProofs only [go_sem, not_false_eq_true, hna, hnI, hN, hget_skip, hset_skip, List.append_assoc, rowsH_names, hn15, hnL]
        refine opK_append tok rfl rfl (by simp -implicitDefEqProofs only [go_sem, not_false_eq_true, hna, hnI, hN, hget_skip, hset_skip, List.append_assoc, rowsH_names, hn15, hnL]; rfl) rfl T98 rfl T101 rfl (by decide) (by simp only [pC_div, List.length_cons, List.length_nil]; omega) fun w3 => ?_
        simp -implicitDefEqProofs only [go_sem, not_false_eq_true, hna, hnI, hN, hget_skip, hset_skip, List.append_assoc, rowsH_names, hn15, hnL, wrap_up hbl (by omega)]
        have es := pC_snoc' l2 (a, Q.idxOf (z, u))
        simp only at es
        rw [es]
        exact ⟨(b + 1, q2, v2, l2 ++ [(a, Q.idxOf (z, u))], w3), ⟨hbl, hq3.symm, hl3.symm⟩, by simp only; omega, by simp -implicitDefEqProofs only [go_sem], List.Sublist.refl _⟩
      · rw [if_neg hm] at hget hq3
        have hpre3 : q2 ++ [(z, u)] <+: Q := hq3 ▸ hQb (b + 1)
        have hix : q2.length = Q.idxOf (z, u) := by
          rw [idxOf_pre hpre3 (by simp), List.idxOf_append, if_neg hm]
          simp
        have hset := mIdx_set hm
        simp -implicitDefEqProofs only [go_sem, zeroA, hget, Option.getD_none, Option.isSome_none, not_false_eq_true, hna, hnI, hN, hget_skip, hset_skip, List.append_assoc, rowsH_names, hn15, hnL, pC_div]
        refine opK_mapUpdate tok (kv := pairK (z, u)) (m := mIdx q2) klW rfl rfl (by simp -implicitDefEqProofs only [go_sem, not_false_eq_true, hna, hnI, hN, hget_skip, hset_skip, List.append_assoc, rowsH_names, hn15, hnL]) rfl T192 rfl hkd hmk ?_
        simp -implicitDefEqProofs only [go_sem, hset, not_false_eq_true, hna, hnI, hN, hget_skip, hset_skip, List.append_assoc, rowsH_names, hn15, hnL]
        refine opK_lit tok T139 rfl T190 (by decide) (by simp -implicitDefEqProofs only [go_sem, zrep, List.flatten_cons, List.flatten_nil]; rfl) ?_
        simp -implicitDefEqProofs only [go_sem, not_false_eq_true, hna, hnI, hN, hget_skip, hset_skip, List.append_assoc, rowsH_names, hn15, hnL]
        refine opK_append tok rfl rfl (by simp -implicitDefEqProofs only [go_sem, not_false_eq_true, hna, hnI, hN, hget_skip, hset_skip, List.append_assoc, rowsH_names, hn15, hnL]; rfl) rfl T139 rfl T190 rfl (by decide) (by simp only [pC_div, List.length_cons, List.length_nil]; omega) fun v3 => ?_
        simp -implicitDefEqProofs only [go_sem, not_false_eq_true, hna, hnI, hN, hget_skip, hset_skip, List.append_assoc, rowsH_names, hn15, hnL]
        refine opK_lit tok T98 rfl T101 (by decide) (by simp -implicitDefEqProofs only [go_sem, zrep, List.flatten_cons, List.flatten_nil]; rfl) ?_
        simp -implicitDefEqProofs only [go_sem, not_false_eq_true, hna, hnI, hN, hget_skip, hset_skip, List.append_assoc, rowsH_names, hn15, hnL]
        refine opK_append tok rfl rfl (by simp -implicitDefEqProofs only [go_sem, not_false_eq_true, hna, hnI, hN, hget_skip, hset_skip, List.append_assoc, rowsH_names, hn15, hnL]; rfl) rfl T98 rfl T101 rfl (by decide) (by simp only [pC_div, List.length_cons, List.length_nil]; omega) fun w3 => ?_
        simp -implicitDefEqProofs only [go_sem, not_false_eq_true, hna, hnI, hN, hget_skip, hset_skip, List.append_assoc, rowsH_names, hn15, hnL, wrap_up hbl (by omega)]
        have es := pC_snoc' l2 (a, q2.length)
        have es2 := pC_snoc' q2 (z, u)
        simp only at es es2
        rw [es, es2, hix]
        exact ⟨(b + 1, q2 ++ [(z, u)], v3, l2 ++ [(a, Q.idxOf (z, u))], w3), ⟨hbl, hq3.symm, hl3.symm⟩, by simp only; omega, by simp -implicitDefEqProofs only [go_sem], List.Sublist.refl _⟩
    · rintro Hx ⟨q', vQ', l', vL', rfl, hq', hl'⟩
      have htake : (bits k v).take ((bits k v).map fun (a : Nat) => [iA (a : Int)]).length = bits k v := by simp
      rw [htake] at hq' hl'
      have hl'E : l' = wE T k want (x, v) := by rw [hl', hQ]; rfl
      have hq'f : q' = pushG q ((wSuc T k want (x, v)).map (·.2)) := hq'
      rw [← hq'f] at hbfs
      have hpreQ : q' <+: Q := hbfs ▸ bfsG_prefix _ _ _
      have hq'n : q'.Nodup := hq'f ▸ pushG_nodup _ hq
      have hq'o : ∀ y ∈ q', NodeOk T y := fun y hy => hQo y (hpreQ.subset hy)
      have hq'l := nodup_le q' (nodesA T) hq'n fun p hp => mem_nodesA.2 (hq'o p hp)
      have hiQ : i < Q.length := Nat.lt_of_lt_of_le hlt hpre.length_le
      have hQi : Q[i] = (x, v) := by rw [← hxv]; exact (hpre.getElem hlt).symm
      have hmQ : (x, v) ∈ Q := hQi ▸ List.getElem_mem hiQ
      have hEn : (wE T k want (x, v)).Nodup := wE_nodup hV hne hw (hQ ▸ hmQ)
      have hEin : ∀ e ∈ wE T k want (x, v), InP k Q.length e := fun e he => by
        obtain ⟨f, hf, rfl⟩ := List.mem_map.1 he
        refine ⟨(wSuc_ok hV hne hw hpo f hf).1, ?_⟩
        rw [hQ]
        exact List.idxOf_lt_length_of_mem (hQ ▸ hQs _ hmQ f hf)
      have hlen := wSucL_len hV hne hw hpo (l := bits k v) (fun b hb => bits_bit hb) (by have := bits_length k v; omega)
      have hll : l'.length ≤ 2048 := by rw [hl', List.length_map]; exact hlen
      simp -implicitDefEqProofs only [go_sem, not_false_eq_true, hna, hnI, hN, hget_skip, hset_skip, List.append_assoc, rowsH_names, hn15, hnL]
      refine opK_call [(nL, .row 101 2 vL' (pC l'))] ([(n2, .cells 25 [strsA T.acts, .imm 2 (stC T.sts)]), (n4, .cells 45 [.raw (.slice none 0 0), .raw (.slice none 0 0)]), (n5, .cells 191 [.imm 1 (tabW T want)]), (nM, .map (mIdx q')), (n11, .cells 192 [.mp nM]), (nQ, .row 190 2 vQ' (pC q')), (n12, .cells 139 [.own nQ vQ']), (nA, .row 9 1 vA (T.acts.map sA)), (n13, .cells 45 [.own nA vA, .own nO vO]), (nO, .row 98 1 vO (ownsC i es ws)), (nI, .cells 3 [.raw (.int .i64 i)]), (n15, .cells 98 [.own nL vL'])] ++ rowsH i 101 2 es ws eR) rfl (SortW_ok nL vL' l' (fun e he => by rw [hl'E] at he; have := hEin e he; exact ⟨by have := this.1; omega, by have := this.2; omega⟩) (by omega)) rfl (Sub.of_eq (by first | rfl | simp -implicitDefEqProofs only [go_sem])) ?_ ?_
      · classical
        exact List.perm_iff_count.2 fun z => by simp only [List.count_append, List.count_cons, List.count_nil, List.cons_append, List.nil_append, List.append_nil] <;> omega
      rintro r H1' ⟨l3, hperm, hsort, rfl⟩ hnr
      have hrow : l3 = wRow T k want (x, v) := by
        rw [wRow, ← hQ]
        exact sorted_mark hEn hEin (hl'E ▸ hperm) hsort
      subst hrow
      simp -implicitDefEqProofs only [go_sem, not_false_eq_true, hna, hnI, hN, hget_skip, hset_skip, List.append_assoc, rowsH_names, hn15, hnL]
      refine opK_lit tok T43 rfl T98 (by decide) (by simp -implicitDefEqProofs only [go_sem, zrep, List.flatten_cons, List.flatten_nil]; rfl) ?_
      simp -implicitDefEqProofs only [go_sem, not_false_eq_true, hna, hnI, hN, hget_skip, hset_skip, List.append_assoc, rowsH_names, hn15, hnL]
      refine opK_append tok rfl rfl (by simp -implicitDefEqProofs only [go_sem, not_false_eq_true, hna, hnI, hN, hget_skip, hset_skip, List.append_assoc, rowsH_names, hn15, hnL]; rfl) rfl T43 rfl T98 rfl (by decide) (by simp only [ownsC_length, Nat.div_one, List.length_cons, List.length_nil]; omega) fun vO' => ?_
      simp -implicitDefEqProofs only [go_sem, not_false_eq_true, hna, hnI, hN, hget_skip, hset_skip, List.append_assoc, rowsH_names, hn15, hnL]
      refine newK_intro fun nJ hnJ => ?_
      try simp -implicitDefEqProofs only [hset, rowsH_names, frt] at hnJ
      have hnJ' : ¬nJ = n2 ∧ ¬nJ = n4 ∧ ¬nJ = n5 ∧ ¬nJ = nM ∧ ¬nJ = n11 ∧ ¬nJ = nQ ∧ ¬nJ = n12 ∧ ¬nJ = nA ∧ ¬nJ = n13 ∧ ¬nJ = nO := by simp only [hnJ, not_false_eq_true, and_self]
      have hltq : i < q'.length := by rw [hq'f]; exact Nat.lt_of_lt_of_le hlt (pushG_prefix _ _).length_le
      simp -implicitDefEqProofs only [go_sem, not_false_eq_true, hna, hnI, hN, hget_skip, hset_skip, List.append_assoc, rowsH_names, hn15, hnL, hnJ, wrap_up hltq (by omega)]
      have hat : ∀ hi : i < (wQ T k want).length, (wQ T k want)[i] = (x, v) := by rw [← hQ]; exact fun _ => hQi
      have hiQ' : i < (wQ T k want).length := by rw [← hQ]; exact hiQ
      have hrw : (witS T k want).row i = wRow T k want (x, v) := by rw [wit_row hiQ', hat hiQ']
      have hF1' : F - (i + 1) < F - i := by omega
      have eRW : rowsH (i + 1) 101 2 (upd es i nL) (upd ws i vL') eR = rowsH i 101 2 es ws eR ++ [(nL, .row 101 2 vL' (pc (wRow T k want (x, v))))] := by
        rw [rowsH_add]
        refine rowsH_congr fun y hy => ⟨rfl, rfl, ?_⟩
        by_cases e : y = i
        · subst e; rw [upd_same, heR]; simp only [hrw]
        · rw [upd_ne e]
      refine ⟨(i + 1, q', vQ', vO', nJ, upd es i nL, upd ws i vL'), ⟨hltq, hq'n, hq'o, hbfs, hnJ'⟩, hF1', [(n15, .cells 98 [.own nL vL']), (nI, .cells 3 [.raw (.int .i64 i)])], [(n2, .cells 25 [strsA T.acts, .imm 2 (stC T.sts)]), (n4, .cells 45 [.raw (.slice none 0 0), .raw (.slice none 0 0)]), (n5, .cells 191 [.imm 1 (tabW T want)]), (nM, .map (mIdx q')), (n11, .cells 192 [.mp nM]), (nQ, .row 190 2 vQ' (pC q')), (n12, .cells 139 [.own nQ vQ']), (nA, .row 9 1 vA (T.acts.map sA)), (n13, .cells 45 [.own nA vA, .own nO vO']), (nO, .row 98 1 vO' (ownsC i es ws ++ [.own nL vL'])), (nJ, .cells 3 [.raw (.int .i64 ((i + 1 : Nat) : Int))])] ++ (rowsH i 101 2 es ws eR ++ [(nL, .row 101 2 vL' (pc (wRow T k want (x, v))))]), ?_, ale_fzs (by simp -implicitDefEqProofs only [go_sem]), ?_⟩
      · classical
        exact List.perm_iff_count.2 fun z => by simp only [List.count_append, List.count_cons, List.count_nil, List.cons_append, List.nil_append] <;> omega
      · simp only [← ownsC_snoc, eRW]
        exact FzH.refl _
    · exact fun e c Hx _ h => h.elim
end Go.Proofs.YtfininfcljdkbaaGreat
