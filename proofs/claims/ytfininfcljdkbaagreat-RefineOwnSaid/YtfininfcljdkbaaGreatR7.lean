/- Specifications, part Ng: what is left of a specification, as an iterator. -/
import Derived.Test.YtfininfcljdkbaaGreatR6
import Derived.Test.YtfininfcljdkbaaGreatR2
import Derived.Test.YtfininfcljdkbaaGreatR3
set_option linter.unusedSimpArgs false
set_option linter.unusedVariables false
namespace Go.Proofs.YtfininfcljdkbaaGreat
open Go Go.NS
noncomputable def leftI (s : Sp) (k x : Nat) : List AV := [iA (x : Nat), .imm 1 ((natsI (gdL s k x)).map iA)]
noncomputable def qM (s : Sp) (k x : Nat) (q : List Nat) (m : Nat) : List Nat := pushN q (((bits k (usedN s k x)).take m).map fun b => (s.nx x b).toNat)
theorem Left_ok (s : Sp) : Fc Tryz.prog 75 [s.av] [] fun x H => ∃ n, x = .clo 114 [.ptr n 0] ∧ H = [(n, .cells 25 [strsA s.acts, .imm 2 (stC s.sts)])] := by
  refine Fc.of_vc tok Tryz.func75 rfl (by decide) ?_
  simp -implicitDefEqProofs only [go_sem, Tryz.ntmps75, Sp.av, Sp.cells]
  refine newK_intro fun n1 hn1 => ?_
  try simp -implicitDefEqProofs only [hset, frt] at hn1
  simp -implicitDefEqProofs only [go_sem]
  refine fnPost_ret tok ?_
  simp -implicitDefEqProofs only [go_sem, Tryz.results75]
  exact ⟨n1, rfl, rfl⟩
set_option maxRecDepth 4000 in
set_option maxHeartbeats 8000000 in
theorem Left_iter (s : Sp) {k : Nat} (hv : s.Val k) (n1 : Nat) :
    Iter Tryz.prog 114 [.ptr n1 0] [(n1, .cells 25 [strsA s.acts, .imm 2 (stC s.sts)])] ((leftN s k).map (leftI s k)) := by
  have hk8 := hv.k8
  have hfew := hv.few
  have hpos := hv.pos
  intro yy J X hy Hb hJ
  obtain ⟨N, hN⟩ : ∃ N, s.sts.length = N := ⟨_, rfl⟩
  refine Fc.of_vc tok Tryz.func114 rfl (by decide) ?_
  simp -implicitDefEqProofs only [go_sem, Tryz.ntmps114, iA]
  refine opK_pure (Hollows_ok s hv) rfl (Sub.of_eq (by first | rfl | simp -implicitDefEqProofs only [go_sem])) ?_
  simp -implicitDefEqProofs only [go_sem]
  refine newK_intro fun n3 hn3 => ?_
  try simp -implicitDefEqProofs only [hset, frt] at hn3
  have h0 := holsC_get (s := s) (x := 0) hpos
  have hcl := holsC_len s
  have hN0 : 0 < N := by omega
  simp -implicitDefEqProofs only [go_sem, hn3, not_false_eq_true, hget_skip, hset_skip, List.append_assoc, hN, h0, hcl, hN0]
  cases hh : holB s 0 with
  | true =>
    have hl : leftN s k = [] := by unfold leftN; rw [hh]; rfl
    simp -implicitDefEqProofs only [go_sem]
    refine fnPost_has (H2 := (n1, .cells 25 [strsA s.acts, .imm 2 (stC s.sts)]) :: Hb) (Has.of_sub ((List.sublist_append_left _ _).cons_cons _)) ?_
    refine fnPost_ret tok ?_
    simp -implicitDefEqProofs only [go_sem, Tryz.results114]
    refine ⟨[(n1, .cells 25 [strsA s.acts, .imm 2 (stC s.sts)])], Hb, rfl, .inl ?_⟩
    rw [hl]; exact hJ
  | false =>
  simp -implicitDefEqProofs only [go_sem, hn3, not_false_eq_true, hget_skip, hset_skip, List.append_assoc, hN, stC_div]
  have hl : leftN s k = bfsN (sucN s k) (N + 1) 0 [0] := by unfold leftN; rw [hh, ← hN]; rfl
  obtain ⟨L, hL⟩ : ∃ L, L = leftN s k := ⟨_, rfl⟩
  rw [← hL] at hl hy ⊢
  refine opK_make tok (n := N) (zc := [.raw (.bool false)]) rfl rfl T105 rfl T4 (by decide) rfl rfl (by simp only; omega) (by omega) fun nS vS hnS => ?_
  try simp -implicitDefEqProofs only [hset, frt] at hnS
  simp -implicitDefEqProofs only [go_sem, hn3, hnS, not_false_eq_true, hget_skip, hset_skip, List.append_assoc, hN, zrep_one, mkC_nil]
  refine newK_intro fun n4 hn4 => ?_
  try simp -implicitDefEqProofs only [hset, frt] at hn4
  have hN1 : 1 ≤ N := hN0
  have e0 : AV.raw (.bool true) :: List.drop 1 (mkC N []) = mkC N [0] := by
    have := mkC_set (l := []) hN0
    simpa using this
  simp -implicitDefEqProofs only [go_sem, hn3, hnS, hn4, not_false_eq_true, hget_skip, hset_skip, List.append_assoc, hN, mkC_len, hN0, hN1, e0]
  refine opK_litOwn tok rfl T39 rfl T3 (by decide) (by simp -implicitDefEqProofs only [go_sem, zrep, List.flatten_cons, List.flatten_nil]; rfl) fun nQ vQ hnQ => ?_
  try simp -implicitDefEqProofs only [hset, frt] at hnQ
  simp -implicitDefEqProofs only [go_sem, hn3, hnS, hn4, hnQ, not_false_eq_true, hget_skip, hset_skip, List.append_assoc, hN]
  refine newK_intro fun n5 hn5 => ?_
  try simp -implicitDefEqProofs only [hset, frt] at hn5
  simp -implicitDefEqProofs only [go_sem, hn3, hnS, hn4, hnQ, hn5, not_false_eq_true, hget_skip, hset_skip, List.append_assoc, hN]
  refine AW.loopP tok (α := Nat × List Nat × Nat × AHeap) (fun a => slots 101 [(0, .yld yy), (1, .ptr n1 0), (3, .ptr n3 0), (4, .ptr n4 0), (5, .ptr n5 0), (6, iA a.1)])
    (fun a => [(n1, .cells 25 [strsA s.acts, .imm 2 (stC s.sts)]), (n3, .cells 105 [.imm 1 (holsC s)]), (nS, .row 4 1 vS (mkC N (a.2.1))), (n4, .cells 105 [.own nS vS]), (nQ, .row 3 1 a.2.2.1 ((natsI (a.2.1)).map iA)), (n5, .cells 39 [.own nQ a.2.2.1])] ++ a.2.2.2)
    (fun a => a.1 ≤ a.2.1.length ∧ a.2.1.Nodup ∧ (∀ y ∈ a.2.1, y < N) ∧ bfsN (sucN s k) (N + 1 - a.1) a.1 a.2.1 = L ∧ J a.1 a.2.2.2)
    (fun a => N + 1 - a.1) (0, [0], vQ, Hb) ⟨Nat.zero_le _, by simp, fun y hy => by simp at hy; omega, hl.symm, hJ⟩ (by simp -implicitDefEqProofs only [go_sem, iA]) (has_end [(n1, .cells 25 [strsA s.acts, .imm 2 (stC s.sts)])] Hb [(n3, .cells 105 [.imm 1 (holsC s)]), (nS, .row 4 1 vS (mkC N [0])), (n4, .cells 105 [.own nS vS]), (nQ, .row 3 1 vQ ((natsI [0]).map iA)), (n5, .cells 39 [.own nQ vQ])]) ?_
  have q3 : ¬n3 = n1 := hn3.1
  have qS : ¬nS = n1 ∧ ¬nS = n3 := by simp only [hnS, not_false_eq_true, and_self]
  have q4 : ¬n4 = n1 ∧ ¬n4 = n3 ∧ ¬n4 = nS := by simp only [hn4, not_false_eq_true, and_self]
  have qQ : ¬nQ = n1 ∧ ¬nQ = n3 ∧ ¬nQ = nS ∧ ¬nQ = n4 := by simp only [hnQ, not_false_eq_true, and_self]
  have q5 : ¬n5 = n1 ∧ ¬n5 = n3 ∧ ¬n5 = nS ∧ ¬n5 = n4 ∧ ¬n5 = nQ := by simp only [hn5, not_false_eq_true, and_self]
  clear hn3 hnS hn4 hnQ hn5 hJ hl Hb vQ
  rintro ⟨i, q, vQ, Hb⟩ ⟨hi, hq, hin, hbfs, hJ⟩
  simp only at hi hq hin hbfs hJ
  have hql := nodup_lt hq hin
  simp -implicitDefEqProofs only [go_sem, not_false_eq_true, hget_skip, hset_skip, List.append_assoc, hN, q3, qS, q4, qQ, q5, iA, List.length_map, natsI_length]
  by_cases hlt : i < q.length
  rotate_left
  · obtain rfl : i = q.length := by omega
    rw [bfsN_stop (by omega)] at hbfs
    simp -implicitDefEqProofs only [go_sem, dlt_false hlt]
    refine fnPost_end tok ?_
    simp -implicitDefEqProofs only [go_sem, Tryz.results114]
    exact ⟨[(n1, .cells 25 [strsA s.acts, .imm 2 (stC s.sts)]), (n3, .cells 105 [.imm 1 (holsC s)]), (nS, .row 4 1 vS (mkC N (q))), (n4, .cells 105 [.own nS vS]), (nQ, .row 3 1 vQ ((natsI (q)).map iA)), (n5, .cells 39 [.own nQ vQ])], Hb, rfl, .inl (by rw [← hbfs]; exact hJ)⟩
  have hfuel : N + 1 - i = (N - i) + 1 := by omega
  rw [hfuel, bfsN_step hlt] at hbfs
  obtain ⟨x, hx⟩ : ∃ x, x = q[i] := ⟨_, rfl⟩
  rw [← hx] at hbfs
  have hxN : x < N := hx ▸ hin _ (List.getElem_mem hlt)
  have hxs : x < s.sts.length := by omega
  have g1 := natsI_at hlt
  rw [← hx] at g1
  simp only [iA, aint] at g1
  have e1 := stC_get0 s.sts x hxs
  obtain ⟨e2, e3, e4⟩ := stC_in hxs
  have eA := hv.acc_eq hxs
  have hal := hv.acc_len hxs
  have eg := stC_get s.sts x hxs
  rw [eA] at eg
  simp -implicitDefEqProofs only [go_sem, dlt_true hlt]
  refine AW.draw tok hmix ⟨[], [], [], false⟩ (by kernel_rfl) (Has.of_sub (List.nil_sublist _)) ?_
  simp -implicitDefEqProofs only [go_sem, not_false_eq_true, hget_skip, hset_skip, List.append_assoc, hN, q3, qS, q4, qQ, q5, hlt, g1, e2, e3, List.length_map, natsI_length]
  refine newK_intro fun n7 hn7 => ?_
  try simp -implicitDefEqProofs only [hset, frt] at hn7
  have hrl := hv.rowlen hxs
  rw [Sp.row_eq hxs] at hrl
  simp -implicitDefEqProofs only [go_sem, not_false_eq_true, hget_skip, hset_skip, List.append_assoc, hN, q3, qS, q4, qQ, q5, hn7, intsA, eg, List.length_map, natsI_length]
  refine AW.adopt 8 3 (sz := 1) (by decide) rfl fun n8 hn8 => ?_
  try simp -implicitDefEqProofs only [hset, frt] at hn8
  simp -implicitDefEqProofs only [go_sem, List.append_assoc]
  refine AW.loopP tok (α := Nat × Nat) (fun a => slots 101 [(0, .yld yy), (1, .ptr n1 0), (3, .ptr n3 0), (4, .ptr n4 0), (5, .ptr n5 0), (6, iA i), (7, .ptr n7 0), (8, .own n8 a.2), (9, iA (orN (((s.acc x).take a.1).filter (goodB s k x)))), (43, .imm 1 ((natsI (s.acc x)).map iA)), (44, iA (s.acc x).length), (45, iA a.1)])
    (fun a => [(n1, .cells 25 [strsA s.acts, .imm 2 (stC s.sts)]), (n3, .cells 105 [.imm 1 (holsC s)]), (nS, .row 4 1 vS (mkC N (q))), (n4, .cells 105 [.own nS vS]), (nQ, .row 3 1 vQ ((natsI (q)).map iA)), (n5, .cells 39 [.own nQ vQ])] ++ ([(n7, .cells 85 [.imm 1 ((natsI (s.acc x)).map iA), .imm 1 (s.sts[x].2.map iA)]), (n8, .row 3 1 a.2 ((natsI (((s.acc x).take (a.1)).filter (goodB s k x))).map iA))] ++ Hb)) (fun a => a.1 ≤ (s.acc x).length) (fun a => (s.acc x).length - a.1) (0, 0) (Nat.zero_le _) (by simp -implicitDefEqProofs only [go_sem, iA, orN, List.filter_nil, List.take_zero, List.foldl_nil, Int.natCast_zero]) (has_end [(n1, .cells 25 [strsA s.acts, .imm 2 (stC s.sts)]), (n3, .cells 105 [.imm 1 (holsC s)]), (nS, .row 4 1 vS (mkC N (q))), (n4, .cells 105 [.own nS vS]), (nQ, .row 3 1 vQ ((natsI (q)).map iA)), (n5, .cells 39 [.own nQ vQ])] Hb [(n7, .cells 85 [.imm 1 ((natsI (s.acc x)).map iA), .imm 1 (s.sts[x].2.map iA)]), (n8, .row 3 1 0 ((natsI (((s.acc x).take (0)).filter (goodB s k x))).map iA))]) ?_
  rintro ⟨j, v8⟩ hj
  simp only at hj
  simp -implicitDefEqProofs only [go_sem, iA]
  by_cases hjl : j < (s.acc x).length
  rotate_left
  · obtain rfl : j = (s.acc x).length := by omega
    rw [List.take_length]
    simp -implicitDefEqProofs only [go_sem, dlt_false hjl]
    refine opK_call [] ([(n1, .cells 25 [strsA s.acts, .imm 2 (stC s.sts)]), (n3, .cells 105 [.imm 1 (holsC s)]), (nS, .row 4 1 vS (mkC N (q))), (n4, .cells 105 [.own nS vS]), (nQ, .row 3 1 vQ ((natsI (q)).map iA)), (n5, .cells 39 [.own nQ vQ])] ++ ([(n7, .cells 85 [.imm 1 ((natsI (s.acc x)).map iA), .imm 1 (s.sts[x].2.map iA)]), (n8, .row 3 1 v8 ((natsI ((s.acc x).filter (goodB s k x))).map iA))] ++ Hb)) rfl (In_ok (usedN s k x)) rfl (Sub.of_eq (by first | rfl | simp -implicitDefEqProofs only [go_sem, iA])) (List.Perm.of_eq (List.append_nil _)) ?_
    rintro c H1' ⟨nC, rfl, rfl⟩ hnC
    simp -implicitDefEqProofs only [go_sem]
    refine AW.fz [(n8, .row 3 1 v8 ((natsI ((s.acc x).filter (goodB s k x))).map iA))] ([(n1, .cells 25 [strsA s.acts, .imm 2 (stC s.sts)]), (n3, .cells 105 [.imm 1 (holsC s)]), (nS, .row 4 1 vS (mkC N (q))), (n4, .cells 105 [.own nS vS]), (nQ, .row 3 1 vQ ((natsI (q)).map iA)), (n5, .cells 39 [.own nQ vQ]), (n7, .cells 85 [.imm 1 ((natsI (s.acc x)).map iA), .imm 1 (s.sts[x].2.map iA)])] ++ (Hb ++ [(nC, .cells 3 [iA (usedN s k x)])])) (t' := slots 101 [(0, .yld yy), (1, .ptr n1 0), (3, .ptr n3 0), (4, .ptr n4 0), (5, .ptr n5 0), (6, iA i), (7, .ptr n7 0), (8, .imm 1 ((natsI ((s.acc x).filter (goodB s k x))).map iA)), (74, .clo 117 [.ptr nC 0])]) ?_ ?_ (FzH.refl _) ?_
    · classical
      exact List.perm_iff_count.2 fun z => by simp only [List.count_append, List.count_cons, List.count_nil, List.cons_append, List.nil_append]; omega
    · simp -implicitDefEqProofs only [go_sem]
      repeat (first | exact Fzs.nil | refine Fzs.cons (Fz.refl _) ?_ | refine Fzs.cons (Fz.rowS (t := 3) List.mem_cons_self (Fzs.refl _)) ?_ | refine Fzs.cons (Fz.junk _) ?_)
    simp -implicitDefEqProofs only [go_sem]
    refine AW.rangeP tok ([(n1, .cells 25 [strsA s.acts, .imm 2 (stC s.sts)]), (n3, .cells 105 [.imm 1 (holsC s)]), (nS, .row 4 1 vS (mkC N (q))), (n4, .cells 105 [.own nS vS]), (nQ, .row 3 1 vQ ((natsI (q)).map iA)), (n5, .cells 39 [.own nQ vQ])] ++ ([(n7, .cells 85 [.imm 1 ((natsI (s.acc x)).map iA), .imm 1 (s.sts[x].2.map iA)])] ++ Hb)) [(nC, .cells 3 [iA (usedN s k x)])] rfl (In_iter k (usedN s k x) (by omega) (usedN_lt hv hxs) nC) (List.Perm.of_eq (by simp -implicitDefEqProofs only [go_sem, List.append_assoc])) (fun i hi => by simp)
      (fun m Hx => ∃ v, Hx = [(n1, .cells 25 [strsA s.acts, .imm 2 (stC s.sts)]), (n3, .cells 105 [.imm 1 (holsC s)]), (nS, .row 4 1 vS (mkC N (qM s k x q m))), (n4, .cells 105 [.own nS vS]), (nQ, .row 3 1 v ((natsI (qM s k x q m)).map iA)), (n5, .cells 39 [.own nQ v])] ++ ([(n7, .cells 85 [.imm 1 ((natsI (s.acc x)).map iA), .imm 1 (s.sts[x].2.map iA)])] ++ Hb)) (fun _ _ => False) ⟨vQ, ?_⟩ ?_ ?_ ?_
    · unfold qM; rw [List.take_zero, List.map_nil, pushN_nil]
    · rintro m hm Hx l ⟨w, rfl⟩
      have hm' : m < (bits k (usedN s k x)).length := by simpa using hm
      simp only [List.getElem_map]
      have hmem : (bits k (usedN s k x))[m] ∈ bits k (usedN s k x) := List.getElem_mem hm'
      have htake : (bits k (usedN s k x)).take (m + 1) = (bits k (usedN s k x)).take m ++ [(bits k (usedN s k x))[m]] := List.take_succ_eq_append_getElem hm'
      generalize (bits k (usedN s k x))[m] = b at hmem htake
      obtain ⟨hb1, hb2⟩ := List.mem_filter.1 hmem
      obtain ⟨hbk, hb0, hb3⟩ := used_nx hv hxs hb2
      obtain ⟨z, hz⟩ : ∃ z : Nat, s.nx x b = (z : Int) := ⟨(s.nx x b).toNat, by omega⟩
      have hzN : z < N := by omega
      have hzN1 : z + 1 ≤ N := hzN
      have x2 := hv.nx_cell hxs hbk
      rw [hz] at x2
      have hbl : b < s.sts[x].2.length := by omega
      obtain ⟨q', hq'⟩ : ∃ q', q' = qM s k x q m := ⟨_, rfl⟩
      have hq2 : qM s k x q (m + 1) = if z ∈ q' then q' else q' ++ [z] := by
        unfold qM at hq' ⊢
        rw [htake, List.map_append, List.map_cons, List.map_nil, pushN_snoc, ← hq']; simp [hz]
      have hq'n : q'.Nodup := by rw [hq']; exact pushN_nodup _ hq
      have hq'in : ∀ y ∈ q', y < N := fun y hy => by
        rw [hq'] at hy
        unfold qM at hy
        rcases (mem_pushN _).1 hy with hy | hy
        · exact hin y hy
        · obtain ⟨c, hc, rfl⟩ := List.mem_map.1 hy
          have := used_nx hv hxs (List.mem_filter.1 (List.mem_of_mem_take hc)).2
          omega
      have hq'l := nodup_lt hq'n hq'in
      have hsn : (mkC N q')[z]? = some (.raw (.bool (decide (z ∈ q')))) := by simp [mkC, hzN, abool]
      rw [← hq']
      simp -implicitDefEqProofs only [go_sem, not_false_eq_true, hget_skip, hset_skip, List.append_assoc, hN, q3, qS, q4, qQ, q5, hn7, intsA, hn8, iA, x2, hbl, hsn, hzN, mkC_len]
      by_cases hs : z ∈ q'
      · rw [if_pos hs] at hq2
        simp -implicitDefEqProofs only [go_sem, hs, decide_true]
        exact ⟨_, List.Sublist.refl _, w, by rw [hq2]⟩
      rw [if_neg hs] at hq2
      have es : (natsI q').map iA ++ [.raw (.int .i64 z)] = (natsI (q' ++ [z])).map iA := by rw [natsI_snoc]; simp [iA, aint]
      simp -implicitDefEqProofs only [go_sem, hs, decide_false, not_false_eq_true, hget_skip, hset_skip, List.append_assoc, hN, q3, qS, q4, qQ, q5, hn7, intsA, hn8, hzN, hzN1, mkC_len, mkC_set]
      refine opK_lit tok T39 rfl T3 (by decide) (by simp -implicitDefEqProofs only [go_sem, zrep, List.flatten_cons, List.flatten_nil]; rfl) ?_
      simp -implicitDefEqProofs only [go_sem, not_false_eq_true, hget_skip, hset_skip, List.append_assoc, hN, q3, qS, q4, qQ, q5, hn7, intsA, hn8]
      refine opK_append tok rfl rfl (by simp -implicitDefEqProofs only [go_sem, not_false_eq_true, hget_skip, hset_skip, List.append_assoc, hN, q3, qS, q4, qQ, q5, hn7, intsA, hn8]; rfl) rfl T39 rfl T3 rfl (by decide) (by simp only [List.length_map, natsI_length, Nat.div_one, List.length_cons, List.length_nil]; omega) fun v9 => ?_
      simp -implicitDefEqProofs only [go_sem, not_false_eq_true, hget_skip, hset_skip, List.append_assoc, hN, q3, qS, q4, qQ, q5, hn7, intsA, hn8, es]
      exact ⟨_, List.Sublist.refl _, v9, by rw [hq2]⟩
    · rintro Hx ⟨w, rfl⟩
      have eqm : qM s k x q (bits k (usedN s k x)).length = pushN q ((bits k (usedN s k x)).map fun b => (s.nx x b).toNat) := by unfold qM; rw [List.take_length]
      rw [List.length_map, eqm]
      obtain ⟨q', hq'⟩ : ∃ q', q' = pushN q ((bits k (usedN s k x)).map fun b => (s.nx x b).toNat) := ⟨_, rfl⟩
      rw [← hq']
      have hbfs' : bfsN (sucN s k) (N - i) (i + 1) q' = L := by rw [hq']; exact hbfs
      have hpre : q <+: q' := hq' ▸ pushN_prefix _ _
      have hq'n : q'.Nodup := hq' ▸ pushN_nodup _ hq
      have hq'in : ∀ y ∈ q', y < N := fun y hy => by
        rw [hq'] at hy
        rcases (mem_pushN _).1 hy with hy | hy
        · exact hin y hy
        · obtain ⟨c, hc, rfl⟩ := List.mem_map.1 hy
          have := used_nx hv hxs (List.mem_filter.1 hc).2
          omega
      have hlt' : i < q'.length := Nat.lt_of_lt_of_le hlt hpre.length_le
      have hqi : q'[i] = x := by rw [hx, hpre.getElem hlt]
      have g3 := natsI_at hlt'
      rw [hqi] at g3
      simp only [iA, aint] at g3
      have hpL : q' <+: L := hbfs' ▸ bfsN_prefix _ _ _
      have hiL : i < (L.map (leftI s k)).length := by rw [List.length_map]; exact Nat.lt_of_lt_of_le hlt' hpL.length_le
      have hit : (L.map (leftI s k))[i] = leftI s k x := by
        rw [List.getElem_map, ← hpL.getElem hlt', hqi]
      simp -implicitDefEqProofs only [go_sem, not_false_eq_true, hget_skip, hset_skip, List.append_assoc, hN, q3, qS, q4, qQ, q5, hn7, intsA, hn8, iA, List.length_map, natsI_length, hlt', g3]
      refine opK_callV Hb [(n1, .cells 25 [strsA s.acts, .imm 2 (stC s.sts)]), (n3, .cells 105 [.imm 1 (holsC s)]), (nS, .row 4 1 vS (mkC N (q'))), (n4, .cells 105 [.own nS vS]), (nQ, .row 3 1 w ((natsI (q')).map iA)), (n5, .cells 39 [.own nQ w]), (n7, .cells 85 [.imm 1 ((natsI (s.acc x)).map iA), .imm 1 (s.sts[x].2.map iA)])] rfl (hy i hiL Hb hJ) (Sub.of_eq ?_) (List.Perm.refl _) ?_
      · rw [hit]; rfl
      rintro r Hb1 hR hnd
      rcases hR with ⟨rfl, hJ1⟩ | ⟨rfl, hX⟩
      rotate_left
      · simp -implicitDefEqProofs only [go_sem]
        refine fnPost_ret tok ?_
        simp -implicitDefEqProofs only [go_sem, Tryz.results114]
        exact ⟨[(n1, .cells 25 [strsA s.acts, .imm 2 (stC s.sts)]), (n3, .cells 105 [.imm 1 (holsC s)]), (nS, .row 4 1 vS (mkC N (q'))), (n4, .cells 105 [.own nS vS]), (nQ, .row 3 1 w ((natsI (q')).map iA)), (n5, .cells 39 [.own nQ w]), (n7, .cells 85 [.imm 1 ((natsI (s.acc x)).map iA), .imm 1 (s.sts[x].2.map iA)])], Hb1, rfl, .inr hX⟩
      have hqb : q.length ≤ 500 := by rw [← hN] at hql; exact Nat.le_trans hql hfew
      simp -implicitDefEqProofs only [go_sem, wrap_up hlt (Nat.le_trans hqb (by decide))]
      refine ⟨(i + 1, q', w, Hb1), ⟨hlt', hq'n, hq'in, by simp only; rw [show N + 1 - (i + 1) = N - i by omega]; exact hbfs', hJ1⟩, by simp only; omega, by simp -implicitDefEqProofs only [go_sem], ?_⟩
      exact has_drop [(n1, .cells 25 [strsA s.acts, .imm 2 (stC s.sts)]), (n3, .cells 105 [.imm 1 (holsC s)]), (nS, .row 4 1 vS (mkC N (q'))), (n4, .cells 105 [.own nS vS]), (nQ, .row 3 1 w ((natsI (q')).map iA)), (n5, .cells 39 [.own nQ w])] [(n7, .cells 85 [.imm 1 ((natsI (s.acc x)).map iA), .imm 1 (s.sts[x].2.map iA)])] Hb1
    · exact fun e c Hx _ h => h.elim
  obtain ⟨v, hve⟩ : ∃ v, v = (s.acc x)[j] := ⟨_, rfl⟩
  have g2 := natsI_at hjl
  rw [← hve] at g2
  simp only [iA, aint] at g2
  have hvm : v ∈ s.acc x := hve ▸ List.getElem_mem hjl
  have hvk := hv.acc_lt hxs hvm
  have htk : (s.acc x).take (j + 1) = (s.acc x).take j ++ [v] := by rw [List.take_succ_eq_append_getElem hjl, hve]
  simp -implicitDefEqProofs only [go_sem, dlt_true hjl, hjl, g2, List.length_map, natsI_length]
  refine newK_intro fun n12 hn12 => ?_
  try simp -implicitDefEqProofs only [hset, frt] at hn12
  simp -implicitDefEqProofs only [go_sem, not_false_eq_true, hget_skip, hset_skip, List.append_assoc, hN, q3, qS, q4, qQ, q5, hn7, intsA, hn8, hn12]
  refine opK_call [] ([(n1, .cells 25 [strsA s.acts, .imm 2 (stC s.sts)]), (n3, .cells 105 [.imm 1 (holsC s)]), (nS, .row 4 1 vS (mkC N (q))), (n4, .cells 105 [.own nS vS]), (nQ, .row 3 1 vQ ((natsI (q)).map iA)), (n5, .cells 39 [.own nQ vQ])] ++ ([(n7, .cells 85 [.imm 1 ((natsI (s.acc x)).map iA), .imm 1 (s.sts[x].2.map iA)]), (n8, .row 3 1 v8 ((natsI (((s.acc x).take (j)).filter (goodB s k x))).map iA))] ++ (Hb ++ [(n12, .cells 4 [.raw (.bool (true))])]))) rfl (In_ok v) rfl (Sub.of_eq (by first | rfl | simp -implicitDefEqProofs only [go_sem, iA])) (List.Perm.of_eq (List.append_nil _)) ?_
  rintro c H1' ⟨nC, rfl, rfl⟩ hnC
  simp -implicitDefEqProofs only [go_sem, not_false_eq_true, hget_skip, hset_skip, List.append_assoc, hN, q3, qS, q4, qQ, q5, hn7, intsA, hn8, hn12]
  refine AW.rangeP tok ([(n1, .cells 25 [strsA s.acts, .imm 2 (stC s.sts)]), (n3, .cells 105 [.imm 1 (holsC s)]), (nS, .row 4 1 vS (mkC N (q))), (n4, .cells 105 [.own nS vS]), (nQ, .row 3 1 vQ ((natsI (q)).map iA)), (n5, .cells 39 [.own nQ vQ])] ++ ([(n7, .cells 85 [.imm 1 ((natsI (s.acc x)).map iA), .imm 1 (s.sts[x].2.map iA)]), (n8, .row 3 1 v8 ((natsI (((s.acc x).take (j)).filter (goodB s k x))).map iA))] ++ (Hb ++ [(n12, .cells 4 [.raw (.bool (true))])]))) [(nC, .cells 3 [iA v])] rfl (In_iter k v (by omega) hvk nC) (List.Perm.of_eq (by simp -implicitDefEqProofs only [go_sem, List.append_assoc])) (fun i hi => by simp)
    (fun m Hx => Hx = [(n1, .cells 25 [strsA s.acts, .imm 2 (stC s.sts)]), (n3, .cells 105 [.imm 1 (holsC s)]), (nS, .row 4 1 vS (mkC N (q))), (n4, .cells 105 [.own nS vS]), (nQ, .row 3 1 vQ ((natsI (q)).map iA)), (n5, .cells 39 [.own nQ vQ])] ++ ([(n7, .cells 85 [.imm 1 ((natsI (s.acc x)).map iA), .imm 1 (s.sts[x].2.map iA)]), (n8, .row 3 1 v8 ((natsI (((s.acc x).take (j)).filter (goodB s k x))).map iA))] ++ (Hb ++ [(n12, .cells 4 [.raw (.bool (((bits k v).take m).all fun b => !holB s (s.nx x b).toNat))])]))) (fun _ _ => False) rfl ?_ ?_ ?_
  · rintro m hm Hx l rfl
    have hm' : m < (bits k v).length := by simpa using hm
    simp only [List.getElem_map]
    have hmem : (bits k v)[m] ∈ bits k v := List.getElem_mem hm'
    have htake : (bits k v).take (m + 1) = (bits k v).take m ++ [(bits k v)[m]] := List.take_succ_eq_append_getElem hm'
    generalize (bits k v)[m] = b at hmem htake
    obtain ⟨hb1, hb2⟩ := List.mem_filter.1 hmem
    obtain ⟨hbk, hb0⟩ := hv.acc_nx hxs hvm hb2
    obtain ⟨hr1, hr2⟩ := hv.nx_rng hxs hbk
    obtain ⟨z, hz⟩ : ∃ z : Nat, s.nx x b = (z : Int) := ⟨(s.nx x b).toNat, by omega⟩
    have hzN : z < N := by omega
    have x2 := hv.nx_cell hxs hbk
    rw [hz] at x2
    have hbl : b < s.sts[x].2.length := by omega
    have hg := holsC_get (s := s) (x := z) (by omega)
    have hall : ((bits k v).take (m + 1)).all (fun b => !holB s (s.nx x b).toNat) = (((bits k v).take m).all (fun b => !holB s (s.nx x b).toNat) && !holB s z) := by
      rw [htake, List.all_append]; simp [hz]
    simp -implicitDefEqProofs only [go_sem, not_false_eq_true, hget_skip, hset_skip, List.append_assoc, hN, q3, qS, q4, qQ, q5, hn7, intsA, hn8, hn12, iA]
    cases hc : ((bits k v).take m).all (fun b => !holB s (s.nx x b).toNat) with
    | false =>
      refine AW.draw tok hmix ⟨[], [], [], false⟩ (by kernel_rfl) (Has.of_sub (List.nil_sublist _)) ?_
      simp -implicitDefEqProofs only [go_sem, not_false_eq_true, hget_skip, hset_skip, List.append_assoc, hN, q3, qS, q4, qQ, q5, hn7, intsA, hn8, hn12]
      refine ⟨_, List.Sublist.refl _, ?_⟩
      simp only [hall, hc, Bool.false_and, List.cons_append, List.nil_append, List.append_assoc]
    | true =>
    refine AW.draw tok hmix ⟨[], [], [], false⟩ (by kernel_rfl) (Has.of_sub (List.nil_sublist _)) ?_
    simp -implicitDefEqProofs only [go_sem, not_false_eq_true, hget_skip, hset_skip, List.append_assoc, hN, q3, qS, q4, qQ, q5, hn7, intsA, hn8, hn12, x2, hbl, hg, hcl, hzN, iA]
    refine ⟨_, List.Sublist.refl _, ?_⟩
    simp only [hall, hc, Bool.true_and, List.cons_append, List.nil_append, List.append_assoc]
  · rintro Hx rfl
    rw [List.length_map, List.take_length]
    simp -implicitDefEqProofs only [go_sem, not_false_eq_true, hget_skip, hset_skip, List.append_assoc, hN, q3, qS, q4, qQ, q5, hn7, intsA, hn8, hn12]
    have hgl : (((s.acc x).take j).filter (goodB s k x)).length ≤ 256 := by
      have := List.length_filter_le (goodB s k x) ((s.acc x).take j)
      rw [List.length_take] at this; omega
    have hgdef : ((bits k v).all fun b => !holB s (s.nx x b).toNat) = goodB s k x v := rfl
    rw [hgdef]
    cases hgd : goodB s k x v with
    | false =>
      have ef : ((s.acc x).take (j + 1)).filter (goodB s k x) = ((s.acc x).take j).filter (goodB s k x) := by rw [htk, List.filter_append]; simp [hgd]
      simp -implicitDefEqProofs only [go_sem, wrap_up hjl (by omega)]
      refine ⟨(j + 1, v8), hjl, by simp only; omega, by simp -implicitDefEqProofs only [go_sem, ef, iA], ?_⟩
      simp only [ef]
      have := has_left ([(n1, .cells 25 [strsA s.acts, .imm 2 (stC s.sts)]), (n3, .cells 105 [.imm 1 (holsC s)]), (nS, .row 4 1 vS (mkC N (q))), (n4, .cells 105 [.own nS vS]), (nQ, .row 3 1 vQ ((natsI (q)).map iA)), (n5, .cells 39 [.own nQ vQ])] ++ [(n7, .cells 85 [.imm 1 ((natsI (s.acc x)).map iA), .imm 1 (s.sts[x].2.map iA)]), (n8, .row 3 1 v8 ((natsI (((s.acc x).take (j)).filter (goodB s k x))).map iA))]) Hb [(n12, .cells 4 [.raw (.bool false)])]
      simpa -implicitDefEqProofs only [List.cons_append, List.nil_append, List.append_assoc] using this
    | true =>
    have ef : ((s.acc x).take (j + 1)).filter (goodB s k x) = ((s.acc x).take j).filter (goodB s k x) ++ [v] := by rw [htk, List.filter_append]; simp [hgd]
    simp -implicitDefEqProofs only [go_sem, not_false_eq_true, hget_skip, hset_skip, List.append_assoc, hN, q3, qS, q4, qQ, q5, hn7, intsA, hn8, hn12]
    refine opK_lit tok T39 rfl T3 (by decide) (by simp -implicitDefEqProofs only [go_sem, zrep, List.flatten_cons, List.flatten_nil]; rfl) ?_
    simp -implicitDefEqProofs only [go_sem, not_false_eq_true, hget_skip, hset_skip, List.append_assoc, hN, q3, qS, q4, qQ, q5, hn7, intsA, hn8, hn12]
    refine opK_append tok rfl rfl (by simp -implicitDefEqProofs only [go_sem, not_false_eq_true, hget_skip, hset_skip, List.append_assoc, hN, q3, qS, q4, qQ, q5, hn7, intsA, hn8, hn12]; rfl) rfl T39 rfl T3 rfl (by decide) (by simp only [List.length_map, natsI_length, Nat.div_one, List.length_cons, List.length_nil]; omega) fun v9 => ?_
    have hp8 := pow8 hk8
    have hol : orN (((s.acc x).take j).filter (goodB s k x)) < 2 ^ k := orN_lt fun w hw => hv.acc_lt hxs (List.mem_of_mem_take (List.mem_filter.1 hw).1)
    have hor := bit2_or (orN (((s.acc x).take j).filter (goodB s k x))) v (by omega) (by omega)
    have es : (natsI (((s.acc x).take j).filter (goodB s k x))).map iA ++ [.raw (.int .i64 v)] = (natsI (((s.acc x).take (j + 1)).filter (goodB s k x))).map iA := by rw [ef, natsI_snoc]; simp [iA, aint]
    simp -implicitDefEqProofs only [go_sem, not_false_eq_true, hget_skip, hset_skip, List.append_assoc, hN, q3, qS, q4, qQ, q5, hn7, intsA, hn8, hn12, wrap_up hjl (by omega), hor, es]
    refine ⟨(j + 1, v9), hjl, by simp only; omega, by simp -implicitDefEqProofs only [go_sem, ef, iA, orN_snoc], ?_⟩
    have := has_left ([(n1, .cells 25 [strsA s.acts, .imm 2 (stC s.sts)]), (n3, .cells 105 [.imm 1 (holsC s)]), (nS, .row 4 1 vS (mkC N (q))), (n4, .cells 105 [.own nS vS]), (nQ, .row 3 1 vQ ((natsI (q)).map iA)), (n5, .cells 39 [.own nQ vQ])] ++ [(n7, .cells 85 [.imm 1 ((natsI (s.acc x)).map iA), .imm 1 (s.sts[x].2.map iA)]), (n8, .row 3 1 v9 ((natsI (((s.acc x).take ((j + 1))).filter (goodB s k x))).map iA))]) Hb [(n12, .cells 4 [.raw (.bool true)])]
    simpa -implicitDefEqProofs only [List.cons_append, List.nil_append, List.append_assoc] using this
  · exact fun e c Hx _ h => h.elim
open Go Go.NS
def u64A (n : Nat) : AV := .raw (.int .u64 n)
theorem Mul64_ok (n : Nat) (hn : n ≤ 8) : Fp Tryz.prog 142 [u64A 1, u64A n] (.tup [u64A 0, u64A n]) := by
  have : n = 0 ∨ n = 1 ∨ n = 2 ∨ n = 3 ∨ n = 4 ∨ n = 5 ∨ n = 6 ∨ n = 7 ∨ n = 8 := by omega
  rcases this with rfl | rfl | rfl | rfl | rfl | rfl | rfl | rfl | rfl
  all_goals
    refine Fp.of_vc tok Tryz.func142 rfl (by decide) ?_
    simp -implicitDefEqProofs only [go_sem, Tryz.ntmps142, u64A]
    refine fnPost_ret tok ?_
    simp -implicitDefEqProofs only [go_sem, Tryz.results142, u64A]
    rfl
theorem Mul_ok (n : Nat) (hn : n ≤ 8) : Fp Tryz.prog 116 [u64A 1, u64A n] (.tup [u64A 0, u64A n]) := by
  refine Fp.of_vc tok Tryz.func116 rfl (by decide) ?_
  simp -implicitDefEqProofs only [go_sem, Tryz.ntmps116, u64A]
  refine opK_pure (Mul64_ok n hn) rfl (Sub.of_eq (by first | rfl | simp -implicitDefEqProofs only [go_sem])) ?_
  simp -implicitDefEqProofs only [go_sem, u64A]
  refine fnPost_ret tok ?_
  simp -implicitDefEqProofs only [go_sem, Tryz.results116, u64A]
def repC (v : Int) (c r : Nat) : List AV := List.replicate c (.raw (.int .i64 v)) ++ List.replicate r (.raw (.int .i64 0))
theorem repC_length (v : Int) (c r : Nat) : (repC v c r).length = c + r := by simp [repC]
theorem rep_set (v : Int) {c r : Nat} : setCells (repC v c r) c ((((repC v c r).drop 0).take c).take r) = repC v (c + min c r) (r - min c r) := by
  have h1 : ((repC v c r).drop 0).take c = List.replicate c (.raw (.int .i64 v)) := by simp [repC]
  rw [h1, List.take_replicate]
  unfold setCells
  have h2 : (repC v c r).take c = List.replicate c (.raw (.int .i64 v)) := by simp [repC]
  rw [h2, List.length_replicate]
  have h3 : (repC v c r).drop (c + min r c) = List.replicate (r - min c r) (.raw (.int .i64 0)) := by
    unfold repC
    rw [List.drop_append, List.drop_of_length_le (by simp), List.drop_replicate]
    simp only [List.length_replicate, List.nil_append]
    congr 1; omega
  rw [h3]
  unfold repC
  rw [List.replicate_append_replicate, Nat.min_comm]
set_option maxHeartbeats 1000000 in
theorem Repeat_ok (v : Int) (n : Nat) (hn : n ≤ 8) : Fc Tryz.prog 77 [.imm 1 [iA v], iA n] [] fun x H => ∃ nm ver, x = .own nm ver ∧ H = [(nm, .row 3 1 ver (List.replicate n (iA v)))] := by
  have h0 : ¬ ((n : Int) < 0) := by omega
  have hc : IntKind.u64.wrap (n : Int) = n := by
    have : n = 0 ∨ n = 1 ∨ n = 2 ∨ n = 3 ∨ n = 4 ∨ n = 5 ∨ n = 6 ∨ n = 7 ∨ n = 8 := by omega
    rcases this with rfl | rfl | rfl | rfl | rfl | rfl | rfl | rfl | rfl <;> rfl
  have hc1 : IntKind.u64.wrap 1 = 1 := rfl
  have hcb : IntKind.i64.wrap (n : Int) = n := IntWalk.i64_in _ (by omega)
  have hg : ¬ ((n : Int) > 9223372036854775807) := by omega
  have hg0 : ¬ ((0 : Int) > 0) := by omega
  refine Fc.of_vc tok Tryz.func77 rfl (by decide) ?_
  simp -implicitDefEqProofs only [go_sem, Tryz.ntmps77, iA]
  simp -implicitDefEqProofs only [go_sem, h0, decide_false, T3, T182, hc, hc1]
  refine opK_pure (Mul_ok n hn) rfl (Sub.of_eq (by first | rfl | simp -implicitDefEqProofs only [go_sem])) ?_
  simp -implicitDefEqProofs only [go_sem, u64A, T3, T182, hc, hc1, hcb, hg, hg0, decide_false]
  refine opK_make tok (n := n) (zc := [.raw (.int .i64 0)]) rfl rfl T39 rfl T3 (by decide) rfl rfl (by simp only; omega) (by omega) fun nm ver hnm => ?_
  simp -implicitDefEqProofs only [go_sem, zrep_one]
  by_cases hz : n = 0
  · subst hz
    simp -implicitDefEqProofs only [go_sem]
    refine opK_copy0 (u := 3) (ys := [.raw (.int .i64 v)]) tok rfl (by simp -implicitDefEqProofs only [go_sem]) (by simp -implicitDefEqProofs only [go_sem]) T39 rfl T3 rfl ?_
    simp -implicitDefEqProofs only [go_sem]
    refine AW.loopP tok (α := Unit) (fun _ => slots 48 [(7, .own nm ver), (8, iA 0)]) (fun _ => [(nm, .row 3 1 ver [])]) (fun _ => True) (fun _ => 0) () trivial (by simp -implicitDefEqProofs only [go_sem, iA]) (Has.refl _) ?_
    rintro _ _
    simp -implicitDefEqProofs only [go_sem, iA]
    refine fnPost_ret tok ?_
    simp -implicitDefEqProofs only [go_sem, Tryz.results77]
    exact ⟨nm, ver, rfl, rfl⟩
  obtain ⟨r0, hr0⟩ : ∃ r0, n = r0 + 1 := ⟨n - 1, by omega⟩
  have hne : List.replicate n (AV.raw (.int .i64 0)) ≠ [] := by rw [hr0]; simp [List.replicate_succ]
  refine opK_copy (nm := nm) (off := 0) (len := n) (u := 3) (ver := ver) (xs := List.replicate n (.raw (.int .i64 0))) (ys := [.raw (.int .i64 v)]) tok rfl ?_ (by simp -implicitDefEqProofs only [go_sem]) (by simp -implicitDefEqProofs only [go_sem]) T39 rfl T3 rfl ?_
  · simp -implicitDefEqProofs only [go_sem, adst]
    simp only [ne_eq, hne, not_false_eq_true, and_self, if_true, List.length_replicate]
  have e1 : setCells (List.replicate n (AV.raw (.int .i64 0))) 0 ([AV.raw (.int .i64 v)].take n) = repC v 1 r0 := by
    rw [hr0]; simp [setCells, repC, List.replicate_succ]
  have e2 : min [AV.raw (.int .i64 v)].length n = 1 := by simp; omega
  rw [e1, e2]
  simp -implicitDefEqProofs only [go_sem]
  refine AW.loopP tok (α := Nat × Nat) (fun a => slots 48 [(7, .own nm ver), (8, iA a.1)]) (fun a => [(nm, .row 3 1 ver (repC v a.1 a.2))]) (fun a => 1 ≤ a.1 ∧ a.1 + a.2 = n) (fun a => a.2) (1, r0) ⟨Nat.le_refl _, by omega⟩ (by simp -implicitDefEqProofs only [go_sem, iA]) (Has.refl _) ?_
  rintro ⟨c, r⟩ ⟨hc1, hcr⟩
  simp only at hc1 hcr
  simp -implicitDefEqProofs only [go_sem, iA, repC_length, hcr]
  by_cases hlt : c < n
  rotate_left
  · have e : decide ((c : Int) < (n : Int)) = false := by simp; omega
    have er : r = 0 := by omega
    have ec : c = n := by omega
    subst er ec
    simp -implicitDefEqProofs only [go_sem, e]
    refine fnPost_ret tok ?_
    simp -implicitDefEqProofs only [go_sem, Tryz.results77]
    refine ⟨nm, ver, rfl, ?_⟩
    simp [repC]
  have e : decide ((c : Int) < (n : Int)) = true := by simp; omega
  have hne2 : repC v c r ≠ [] := fun h => by have := repC_length v c r; rw [h] at this; simp at this; omega
  simp -implicitDefEqProofs only [go_sem, e]
  refine AW.draw tok hmix ⟨[45], [], [], false⟩ (by kernel_rfl) (Has.of_sub (List.nil_sublist _)) ?_
  simp -implicitDefEqProofs only [go_sem]
  refine opK_sliceOwn (u := 3) (sz := 1) (l := c) (h := n) tok rfl (by simp -implicitDefEqProofs only [go_sem]) T39 rfl T3 rfl hne2 (by simp -implicitDefEqProofs only [go_sem]) (by simp -implicitDefEqProofs only [go_sem, repC_length, hcr]) (by omega) (by rw [repC_length]; omega) ?_
  simp -implicitDefEqProofs only [go_sem]
  refine opK_sliceOwn (u := 3) (sz := 1) (l := 0) (h := c) tok rfl (by simp -implicitDefEqProofs only [go_sem]) T39 rfl T3 rfl hne2 (by simp -implicitDefEqProofs only [go_sem]) (by simp -implicitDefEqProofs only [go_sem]) (by omega) (by rw [repC_length]; omega) ?_
  simp -implicitDefEqProofs only [go_sem]
  have hnc : n - c = r := by omega
  refine opK_copy (nm := nm) (off := c) (len := r) (u := 3) (ver := ver) (xs := repC v c r) (ys := ((repC v c r).drop 0).take c) tok rfl ?_ (by simp -implicitDefEqProofs only [go_sem]) ?_ T39 rfl T3 rfl ?_
  · have : c + r ≤ (repC v c r).length := by rw [repC_length]; exact Nat.le_refl _
    simp -implicitDefEqProofs only [go_sem, adst, hnc, Nat.mul_one, this]
  · have : c ≤ (repC v c r).length := by rw [repC_length]; omega
    simp -implicitDefEqProofs only [go_sem, asrc, Nat.sub_zero, this]
  rw [rep_set]
  have hl : min (((repC v c r).drop 0).take c).length r = min c r := by rw [List.drop_zero, List.length_take, repC_length]; omega
  have hw : IntKind.i64.wrap ((c : Int) + ((min c r : Nat) : Int)) = ((c + min c r : Nat) : Int) := by rw [IntWalk.i64_in _ (by omega)]; omega
  rw [hl]
  simp -implicitDefEqProofs only [go_sem, hw]
  exact ⟨(c + min c r, r - min c r), ⟨by simp only; omega, by simp only; omega⟩, by simp only; omega, by simp -implicitDefEqProofs only [go_sem], Has.refl _⟩
open Go Go.NS
def nothS (acts : List ByteArray) : Sp := ⟨acts, [([], List.replicate acts.length (-1))]⟩
set_option maxHeartbeats 2000000 in
theorem Nothing_ok (acts : List ByteArray) (h8 : acts.length ≤ 8) : Fp Tryz.prog 76 [strsA acts] (nothS acts).av := by
  refine Fp.of_vc tok Tryz.func76 rfl (by decide) ?_
  simp -implicitDefEqProofs only [go_sem, Tryz.ntmps76]
  refine newK_intro fun n2 hn2 => ?_
  try simp -implicitDefEqProofs only [hset, frt] at hn2
  simp -implicitDefEqProofs only [go_sem]
  refine opK_pure (CloneS_ok acts (by omega)) rfl (Sub.of_eq (by first | rfl | simp -implicitDefEqProofs only [go_sem])) ?_
  simp -implicitDefEqProofs only [go_sem, strsA, List.length_map]
  refine opK_lit tok T39 rfl T3 (by decide) (by simp -implicitDefEqProofs only [go_sem, zrep, List.flatten_cons, List.flatten_nil]; rfl) ?_
  simp -implicitDefEqProofs only [go_sem, strsA, List.length_map, Nat.div_one]
  refine opK_call [] [(n2, .cells 25 [.raw (.slice none 0 0), .raw (.slice none 0 0)])] rfl (Repeat_ok (-1) acts.length h8) rfl (Sub.of_eq (by simp -implicitDefEqProofs only [go_sem, iA])) (List.Perm.of_eq (List.append_nil _)) ?_
  rintro r H1' ⟨nX, vX, rfl, rfl⟩ hnX
  simp only [List.map_append, List.map_cons, List.map_nil, List.cons_append, List.nil_append, List.nodup_cons, List.mem_cons, List.not_mem_nil, or_false, not_or, not_false_eq_true, List.nodup_nil, and_true] at hnX
  simp -implicitDefEqProofs only [go_sem]
  refine opK_litOwn tok rfl T23 rfl T85 (by decide) (by simp -implicitDefEqProofs only [go_sem, zrep, List.flatten_cons, List.flatten_nil]; rfl) fun nT vT hnT => ?_
  try simp -implicitDefEqProofs only [hset, frt] at hnT
  simp -implicitDefEqProofs only [go_sem]
  have hfT : Fz [(nX, .row 3 1 vX (List.replicate acts.length (iA (-1)))), (nT, .row 85 2 vT [.raw (.slice none 0 0), .own nX vX])] (.own nT vT) (.imm 2 [.imm 1 [], .imm 1 (List.replicate acts.length (iA (-1)))]) := Fz.rowS (List.mem_cons_of_mem _ List.mem_cons_self) (Fzs.cons Fz.nil (Fzs.cons (Fz.rowS (List.mem_cons_self) (Fzs.refl _)) Fzs.nil))
  refine fnPost_fz [(nX, .row 3 1 vX (List.replicate acts.length (iA (-1)))), (nT, .row 85 2 vT [.raw (.slice none 0 0), .own nX vX])] [(n2, .cells 25 [.imm 1 (acts.map sA), .own nT vT])] (t' := slots 12 [(2, .ptr n2 0)]) (B' := [(n2, .cells 25 [.imm 1 (acts.map sA), .imm 2 [.imm 1 [], .imm 1 (List.replicate acts.length (iA (-1)))]])]) ?_ ?_ (FzH.cons (.cells (Fzs.cons (Fz.refl _) (Fzs.cons hfT Fzs.nil))) FzH.nil) ?_
  · classical
    exact List.perm_iff_count.2 fun z => by simp only [List.count_append, List.count_cons, List.count_nil, List.cons_append, List.nil_append]; omega
  · simp -implicitDefEqProofs only [go_sem]
    repeat (first | exact Fzs.nil | refine Fzs.cons (Fz.refl _) ?_ | refine Fzs.cons (Fz.junk _) ?_)
  simp -implicitDefEqProofs only [go_sem]
  refine fnPost_ret tok ?_
  simp -implicitDefEqProofs only [go_sem, Tryz.results76]
  simp [nothS, Sp.av, Sp.cells, stC, c2, strsA, intsA]
open Go Go.NS
noncomputable def trimRow (s : Sp) (k x : Nat) (L : List Nat) : List Int := (List.range k).map fun a => if (usedN s k x).testBit a then ((L.idxOf (s.nx x a).toNat : Nat) : Int) else -1
noncomputable def trimX (s : Sp) (k x : Nat) : List Int × List Int := (natsI (gdL s k x), trimRow s k x (leftN s k))
noncomputable def trimS (s : Sp) (k : Nat) : Sp := if leftN s k = [] then nothS s.acts else ⟨s.acts, (leftN s k).map (trimX s k)⟩
def plC (N : Nat) (l : List Nat) : List AV := (List.range N).map fun y => iA (if y ∈ l then (l.idxOf y : Nat) else 0 : Nat)
theorem plC_len (N : Nat) (l : List Nat) : (plC N l).length = N := by simp [plC]
theorem plC_nil (N : Nat) : List.replicate N (AV.raw (.int .i64 0)) = plC N [] := by
  refine List.ext_getElem (by simp [plC]) fun x h1 h2 => ?_
  simp [plC, iA, aint]
theorem plC_get {N y : Nat} {l : List Nat} (h : y < N) (hm : y ∈ l) : (plC N l)[y]? = some (.raw (.int .i64 (l.idxOf y : Nat))) := by simp [plC, h, hm, iA, aint]
theorem plC_set {N x : Nat} {l : List Nat} (h : x < N) (hn : x ∉ l) : List.take x (plC N l) ++ .raw (.int .i64 (l.length : Nat)) :: List.drop (x + 1) (plC N l) = plC N (l ++ [x]) := by
  rw [take_setC (by rw [plC_len]; exact h)]
  refine List.ext_getElem (by simp [plC]) fun y h1 h2 => ?_
  rw [List.getElem_set]
  simp only [plC, List.getElem_map, List.getElem_range, List.mem_append, List.mem_cons, List.not_mem_nil, or_false]
  by_cases e : x = y
  · subst e
    rw [if_pos rfl, if_pos (.inr rfl), List.idxOf_append, if_neg hn]
    simp [iA, aint]
  · have e2 : ¬ y = x := fun h => e h.symm
    rw [if_neg e]
    by_cases hm : y ∈ l
    · rw [if_pos hm, if_pos (.inl hm), List.idxOf_append, if_pos hm]
    · rw [if_neg hm, if_neg (by rintro (h | h); exact hm h; exact e2 h)]
theorem c2_congr {α : Type} {f g f' g' : α → AV} {l : List α} (h : ∀ x ∈ l, f x = f' x ∧ g x = g' x) : c2 f g l = c2 f' g' l := by
  induction l with
  | nil => rfl
  | cons x l ih =>
    have h1 := h x (by simp)
    have h2 := ih fun y hy => h y (by simp [hy])
    unfold c2 at *
    rw [List.flatMap_cons, List.flatMap_cons, h2, h1.1, h1.2]
noncomputable def trimC (s : Sp) (k : Nat) (L : List Nat) (i : Nat) (ns vs : Nat → Nat) : List AV :=
  c2 (fun j => intsA (natsI (gdL s k (L.getD j 0)))) (fun j => if j < i then .own (ns j) (vs j) else .raw (.slice none 0 0)) (List.range L.length)
theorem trimC_len (s : Sp) (k : Nat) (L : List Nat) (i : Nat) (ns vs : Nat → Nat) : (trimC s k L i ns vs).length = L.length * 2 := by
  unfold trimC
  rw [c2_length, List.length_range]
theorem trimC_div (s : Sp) (k : Nat) (L : List Nat) (i : Nat) (ns vs : Nat → Nat) : (trimC s k L i ns vs).length / 2 = L.length := by rw [trimC_len]; omega
theorem trimC_snoc (s : Sp) (k : Nat) (l : List Nat) (x : Nat) (ns vs : Nat → Nat) : trimC s k l 0 ns vs ++ [intsA (natsI (gdL s k x)), .raw (.slice none 0 0)] = trimC s k (l ++ [x]) 0 ns vs := by
  unfold trimC
  rw [List.length_append, List.length_cons, List.length_nil, List.range_succ, ← c2_snoc]
  congr 1
  · refine c2_congr fun j hj => ?_
    have hj' : j < l.length := by simpa using hj
    refine ⟨?_, rfl⟩
    rw [gd hj', gd (by simp; omega), List.getElem_append_left hj']
  · rw [gd (by simp)]
    simp
theorem trimC_get0 {s : Sp} {k : Nat} {L : List Nat} {i j : Nat} {ns vs : Nat → Nat} (h : j < L.length) : (trimC s k L i ns vs)[j * 2]? = some (intsA (natsI (gdL s k L[j]))) := by
  unfold trimC
  rw [c2_get0 _ _ _ j (by simpa using h)]
  simp [h]
theorem trimC_set {s : Sp} {k : Nat} {L : List Nat} {i : Nat} {ns vs : Nat → Nat} {nm v : Nat} (h : i < L.length) : (trimC s k L i ns vs).set (i * 2 + 1) (.own nm v) = trimC s k L (i + 1) (upd ns i nm) (upd vs i v) := by
  have hl := trimC_len s k L i ns vs
  have hl2 := trimC_len s k L (i + 1) (upd ns i nm) (upd vs i v)
  refine List.ext_getElem? fun t => ?_
  by_cases ht : t < L.length * 2
  rotate_left
  · rw [List.getElem?_eq_none (by simp; omega), List.getElem?_eq_none (by omega)]
  obtain ⟨j, hj, e | e⟩ : ∃ j, j < L.length ∧ (t = j * 2 ∨ t = j * 2 + 1) := ⟨t / 2, by omega, by omega⟩
  · subst e
    rw [List.getElem?_set_ne (by omega), trimC_get0 hj, trimC_get0 hj]
  · subst e
    have g : ∀ i ns vs, (trimC s k L i ns vs)[j * 2 + 1]? = some (if j < i then AV.own (ns j) (vs j) else .raw (.slice none 0 0)) := fun i ns vs => by
      unfold trimC
      rw [c2_get1 _ _ _ j (by simpa using hj)]
      simp
    rw [g]
    by_cases e : j = i
    · subst e
      rw [List.getElem?_set_self (by omega), if_pos (by omega), upd_same, upd_same]
    · rw [List.getElem?_set_ne (by omega), g, upd_ne e, upd_ne e]
      by_cases e2 : j < i
      · rw [if_pos e2, if_pos (by omega)]
      · rw [if_neg e2, if_neg (by omega)]
noncomputable def trP (s : Sp) (k x : Nat) (L : List Nat) (m : Nat) : List AV := (List.range k).map fun a => iA (if a ∈ (bits k (usedN s k x)).take m then ((L.idxOf (s.nx x a).toNat : Nat) : Int) else -1)
theorem trP_len (s : Sp) (k x : Nat) (L : List Nat) (m : Nat) : (trP s k x L m).length = k := by simp [trP]
theorem trP_zero (s : Sp) (k x : Nat) (L : List Nat) : List.replicate k (iA (-1)) = trP s k x L 0 := by
  refine List.ext_getElem (by simp [trP]) fun a h1 h2 => by simp [trP]
theorem trP_full (s : Sp) (k x : Nat) (L : List Nat) : trP s k x L (bits k (usedN s k x)).length = (trimRow s k x L).map iA := by
  unfold trP trimRow
  rw [List.take_length, List.map_map]
  refine List.map_congr_left fun a ha => ?_
  have ha' : a < k := by simpa using ha
  have : a ∈ bits k (usedN s k x) ↔ (usedN s k x).testBit a = true := by simp [bits, ha']
  simp only [Function.comp, this]
theorem trP_set {s : Sp} {k x b m z : Nat} {L : List Nat} (hm : m < (bits k (usedN s k x)).length) (hb : (bits k (usedN s k x))[m] = b) (hbk : b < k) (hz : s.nx x b = (z : Int)) :
    List.take b (trP s k x L m) ++ .raw (.int .i64 (L.idxOf z : Nat)) :: List.drop (b + 1) (trP s k x L m) = trP s k x L (m + 1) := by
  rw [take_setC (by rw [trP_len]; exact hbk)]
  refine List.ext_getElem (by simp [trP]) fun a h1 h2 => ?_
  rw [List.getElem_set]
  simp only [trP, List.getElem_map, List.getElem_range, List.take_succ_eq_append_getElem hm, hb, List.mem_append, List.mem_cons, List.not_mem_nil, or_false]
  by_cases e : b = a
  · subst e; simp [hz, iA, aint]
  · have e2 : ¬ a = b := fun h => e h.symm
    simp [e, e2]
open Go Go.NS
theorem fzs_c2 {α : Type} {A : AHeap} {f g f' g' : α → AV} {l : List α} (h : ∀ x ∈ l, Fz A (f x) (f' x) ∧ Fz A (g x) (g' x)) : Fzs A (c2 f g l) (c2 f' g' l) := by
  induction l with
  | nil => exact Fzs.nil
  | cons x l ih =>
    have h1 := h x (by simp)
    have h2 := ih fun y hy => h y (by simp [hy])
    unfold c2 at *
    rw [List.flatMap_cons, List.flatMap_cons]
    exact Fzs.cons h1.1 (Fzs.cons h1.2 h2)
set_option maxRecDepth 4000 in
set_option maxHeartbeats 8000000 in
theorem Trimmed_ok (s : Sp) {k : Nat} (hv : s.Val k) : Fp Tryz.prog 45 [s.av] (.tup [(trimS s k).av, intsA (natsI (leftN s k))]) := by
  have hk8 := hv.k8
  have hfew := hv.few
  obtain ⟨N, hN⟩ : ∃ N, s.sts.length = N := ⟨_, rfl⟩
  obtain ⟨L, hL⟩ : ∃ L, L = leftN s k := ⟨_, rfl⟩
  obtain ⟨hLn, hLl, hLc⟩ := left_ok hv
  rw [← hL] at hLn hLl hLc
  have hal : s.acts.length = k := hv.len
  refine Fp.of_vc tok Tryz.func45 rfl (by decide) ?_
  simp -implicitDefEqProofs only [go_sem, Tryz.ntmps45, Sp.av, Sp.cells]
  refine newK_intro fun n1 hn1 => ?_
  try simp -implicitDefEqProofs only [hset, rowsH_names, frt] at hn1
  simp -implicitDefEqProofs only [go_sem]
  refine newK_intro fun n2 hn2 => ?_
  try simp -implicitDefEqProofs only [hset, rowsH_names, frt] at hn2
  simp -implicitDefEqProofs only [go_sem, hn2, not_false_eq_true, hget_skip, hset_skip, List.append_assoc, rowsH_names, hN]
  refine opK_pure (CloneS_ok s.acts (by omega)) rfl (Sub.of_eq (by first | rfl | simp -implicitDefEqProofs only [go_sem])) ?_
  simp -implicitDefEqProofs only [go_sem, hn2]
  refine newK_intro fun n4 hn4 => ?_
  try simp -implicitDefEqProofs only [hset, rowsH_names, frt] at hn4
  simp -implicitDefEqProofs only [go_sem, hn2, hn4, not_false_eq_true, hget_skip, hset_skip, List.append_assoc, rowsH_names, hN]
  refine newK_intro fun n5 hn5 => ?_
  try simp -implicitDefEqProofs only [hset, rowsH_names, frt] at hn5
  simp -implicitDefEqProofs only [go_sem, hn2, hn4, hn5, not_false_eq_true, hget_skip, hset_skip, List.append_assoc, rowsH_names, hN, stC_div]
  refine opK_make tok (n := N) (zc := [.raw (.int .i64 0)]) rfl rfl T39 rfl T3 (by decide) rfl rfl (by simp only; omega) (by omega) fun nP vP hnP => ?_
  try simp -implicitDefEqProofs only [hset, rowsH_names, frt] at hnP
  simp -implicitDefEqProofs only [go_sem, hn2, hn4, hn5, hnP, not_false_eq_true, hget_skip, hset_skip, List.append_assoc, rowsH_names, hN, zrep_one, plC_nil]
  refine newK_intro fun n6 hn6 => ?_
  try simp -implicitDefEqProofs only [hset, rowsH_names, frt] at hn6
  simp -implicitDefEqProofs only [go_sem, hn2, hn4, hn5, hnP, hn6, not_false_eq_true, hget_skip, hset_skip, List.append_assoc, rowsH_names, hN]
  refine opK_call [] [(n1, .cells 25 [strsA s.acts, .imm 2 (stC s.sts)]), (n2, .cells 25 [.raw (.slice none 0 0), .raw (.slice none 0 0)]), (n4, .cells 25 [strsA s.acts, .raw (.slice none 0 0)]), (n5, .cells 39 [.raw (.slice none 0 0)]), (nP, .row 3 1 vP (plC N [])), (n6, .cells 39 [.own nP vP])] rfl (Left_ok s) rfl (Sub.of_eq (by first | rfl | simp -implicitDefEqProofs only [go_sem, Sp.av, Sp.cells])) (List.Perm.of_eq (List.append_nil _)) ?_
  rintro c H1' ⟨nC, rfl, rfl⟩ hnC
  simp only [List.map_append, List.map_cons, List.map_nil, List.cons_append, List.nil_append, List.nodup_cons, List.mem_cons, List.not_mem_nil, or_false, not_or, not_false_eq_true, List.nodup_nil, and_true] at hnC
  simp -implicitDefEqProofs only [go_sem]
  refine AW.adoptIn n4 1 85 (sz := 2) (by decide) (by simp -implicitDefEqProofs only [go_sem, hn4, hn2]; rfl) rfl fun nW hnW => ?_
  try simp -implicitDefEqProofs only [hset, rowsH_names, frt] at hnW
  simp -implicitDefEqProofs only [go_sem, hn4, hn2]
  refine AW.adoptIn n5 0 3 (sz := 1) (by decide) (by simp -implicitDefEqProofs only [go_sem, hn5, hn4, hn2]; rfl) rfl fun nO hnO => ?_
  try simp -implicitDefEqProofs only [hset, rowsH_names, frt] at hnO
  simp -implicitDefEqProofs only [go_sem, hn5, hn4, hn2]
  refine AW.rangeP tok [(n1, .cells 25 [strsA s.acts, .imm 2 (stC s.sts)]), (n2, .cells 25 [.raw (.slice none 0 0), .raw (.slice none 0 0)]), (n4, .cells 25 [strsA s.acts, .own nW 0]), (n5, .cells 39 [.own nO 0]), (nP, .row 3 1 vP (plC N (([] : List Nat)))), (n6, .cells 39 [.own nP vP]), (nW, .row 85 2 0 (trimC s k (([] : List Nat)) 0 (fun _ => 0) (fun _ => 0))), (nO, .row 3 1 0 ((natsI (([] : List Nat))).map iA))] [(nC, .cells 25 [strsA s.acts, .imm 2 (stC s.sts)])] rfl (Left_iter s hv nC) ?_ (fun i hi => by simp [leftI])
    (fun m Hx => ∃ vW vO, Hx = [(n1, .cells 25 [strsA s.acts, .imm 2 (stC s.sts)]), (n2, .cells 25 [.raw (.slice none 0 0), .raw (.slice none 0 0)]), (n4, .cells 25 [strsA s.acts, .own nW vW]), (n5, .cells 39 [.own nO vO]), (nP, .row 3 1 vP (plC N ((L.take m)))), (n6, .cells 39 [.own nP vP]), (nW, .row 85 2 vW (trimC s k ((L.take m)) 0 (fun _ => 0) (fun _ => 0))), (nO, .row 3 1 vO ((natsI ((L.take m))).map iA))]) (fun _ _ => False) ⟨0, 0, rfl⟩ ?_ ?_ ?_
  · classical
    exact List.perm_iff_count.2 fun z => by simp only [List.count_append, List.count_cons, List.count_nil, List.cons_append, List.nil_append, trimC, natsI, List.length_nil, List.range_zero, c2_nil, List.map_nil]; omega
  · rintro m hm Hx l ⟨vW, vO, rfl⟩
    rw [List.length_map, ← hL] at hm
    have hit : ((leftN s k).map (leftI s k))[m] = leftI s k L[m] := by simp only [List.getElem_map, ← hL]
    rw [hit]
    have hxs : L[m] < s.sts.length := hLl _ (List.getElem_mem hm)
    have htk : L.take (m + 1) = L.take m ++ [L[m]] := List.take_succ_eq_append_getElem hm
    have hxn : L[m] ∉ L.take m := fun h => by
      obtain ⟨j, hj, e⟩ := List.getElem_of_mem h
      rw [List.length_take] at hj
      rw [List.getElem_take] at e
      have := (List.getElem_inj hLn).1 e
      omega
    generalize L[m] = x at hxs htk hxn
    obtain ⟨l, hl⟩ : ∃ l, l = L.take m := ⟨_, rfl⟩
    rw [← hl] at htk hxn ⊢
    have hll : l.length ≤ 500 := by
      have := List.length_take_le m L
      have h2 := nodup_lt hLn hLl
      rw [hl]; omega
    have hxN : x < N := by omega
    have hxN1 : x + 1 ≤ N := hxN
    have es : (natsI l).map iA ++ [.raw (.int .i64 x)] = (natsI (l ++ [x])).map iA := by rw [natsI_snoc]; simp [iA, aint]
    have et := trimC_snoc s k l x (fun _ => 0) (fun _ => 0)
    simp only [intsA] at et
    simp -implicitDefEqProofs only [go_sem, leftI, iA, not_false_eq_true, hget_skip, hset_skip, List.append_assoc, rowsH_names, hN, hn2, hn4, hn5, hnP, hn6, hnW, hnO, List.length_map, natsI_length, plC_len, hxN, hxN1, plC_set hxN hxn]
    refine opK_lit tok T39 rfl T3 (by decide) (by simp -implicitDefEqProofs only [go_sem, zrep, List.flatten_cons, List.flatten_nil]; rfl) ?_
    simp -implicitDefEqProofs only [go_sem, not_false_eq_true, hget_skip, hset_skip, List.append_assoc, rowsH_names, hN, hn2, hn4, hn5, hnP, hn6, hnW, hnO]
    refine opK_append tok rfl rfl (by simp -implicitDefEqProofs only [go_sem, not_false_eq_true, hget_skip, hset_skip, List.append_assoc, rowsH_names, hN, hn2, hn4, hn5, hnP, hn6, hnW, hnO]; rfl) rfl T39 rfl T3 rfl (by decide) (by simp only [List.length_map, natsI_length, Nat.div_one, List.length_cons, List.length_nil]; omega) fun v9 => ?_
    simp -implicitDefEqProofs only [go_sem, not_false_eq_true, hget_skip, hset_skip, List.append_assoc, rowsH_names, hN, hn2, hn4, hn5, hnP, hn6, hnW, hnO, es]
    refine opK_lit tok T23 rfl T85 (by decide) (by simp -implicitDefEqProofs only [go_sem, zrep, List.flatten_cons, List.flatten_nil]; rfl) ?_
    simp -implicitDefEqProofs only [go_sem, not_false_eq_true, hget_skip, hset_skip, List.append_assoc, rowsH_names, hN, hn2, hn4, hn5, hnP, hn6, hnW, hnO]
    refine opK_append tok rfl rfl (by simp -implicitDefEqProofs only [go_sem, not_false_eq_true, hget_skip, hset_skip, List.append_assoc, rowsH_names, hN, hn2, hn4, hn5, hnP, hn6, hnW, hnO]; rfl) rfl T23 rfl T85 rfl (by decide) (by simp only [trimC_div, List.length_cons, List.length_nil]; omega) fun v8 => ?_
    simp -implicitDefEqProofs only [go_sem, not_false_eq_true, hget_skip, hset_skip, List.append_assoc, rowsH_names, hN, hn2, hn4, hn5, hnP, hn6, hnW, hnO, et]
    exact ⟨_, List.Sublist.refl _, v8, v9, by rw [htk]⟩
  · rintro Hx ⟨vW, vO, rfl⟩
    rw [List.length_map, ← hL, List.take_length]
    simp -implicitDefEqProofs only [go_sem, not_false_eq_true, hget_skip, hset_skip, List.append_assoc, rowsH_names, hN, hn2, hn4, hn5, hnP, hn6, hnW, hnO, List.length_map, natsI_length]
    have hLlen := nodup_lt hLn hLl
    by_cases h0 : L = []
    · have htr : trimS s k = nothS s.acts := by unfold trimS; rw [← hL, if_pos h0]
      have e0 : decide ((L.length : Int) = 0) = true := by rw [h0]; rfl
      simp -implicitDefEqProofs only [go_sem, e0]
      refine opK_pure (Nothing_ok s.acts (by omega)) rfl (Sub.of_eq (by first | rfl | simp -implicitDefEqProofs only [go_sem])) ?_
      simp -implicitDefEqProofs only [go_sem, Sp.av, Sp.cells, not_false_eq_true, hget_skip, hset_skip, List.append_assoc, rowsH_names, hN, hn2, hn4, hn5, hnP, hn6, hnW, hnO]
      refine fnPost_retLe tok ?_
      simp -implicitDefEqProofs only [go_sem, Tryz.results45, not_false_eq_true, hget_skip, hset_skip, List.append_assoc, rowsH_names, hN, hn2, hn4, hn5, hnP, hn6, hnW, hnO]
      refine ⟨_, Le.tup (Les.cons (Le.refl _) (Les.cons (Le.nil 1) Les.nil)), ?_⟩
      rw [htr, h0]; rfl
    have hpos : 0 < L.length := List.length_pos_iff.2 h0
    have htr : trimS s k = ⟨s.acts, L.map (trimX s k)⟩ := by unfold trimS; rw [← hL, if_neg h0]
    have e0 : decide ((L.length : Int) = 0) = false := decide_eq_false (by omega)
    simp -implicitDefEqProofs only [go_sem, e0, not_false_eq_true, hget_skip, hset_skip, List.append_assoc, rowsH_names, hN, hn2, hn4, hn5, hnP, hn6, hnW, hnO, List.length_map, natsI_length]
    refine AW.loopP tok (α := Nat × (Nat → Nat) × (Nat → Nat)) (fun a => slots 104 [(1, .ptr n1 0), (2, .ptr n2 0), (4, .ptr n4 0), (5, .ptr n5 0), (6, .ptr n6 0), (50, .own nO vO), (51, iA L.length), (52, iA a.1)])
      (fun a => [(n1, .cells 25 [strsA s.acts, .imm 2 (stC s.sts)]), (n2, .cells 25 [.raw (.slice none 0 0), .raw (.slice none 0 0)]), (n4, .cells 25 [strsA s.acts, .own nW vW]), (n5, .cells 39 [.own nO vO]), (nP, .row 3 1 vP (plC N L)), (n6, .cells 39 [.own nP vP]), (nW, .row 85 2 vW (trimC s k L a.1 a.2.1 a.2.2)), (nO, .row 3 1 vO ((natsI L).map iA))] ++ rowsH a.1 3 1 a.2.1 a.2.2 (fun j => (trimRow s k (L.getD j 0) L).map iA))
      (fun a => a.1 ≤ L.length ∧ Inj a.1 a.2.1 ∧ ∀ y, y < a.1 → ¬a.2.1 y = n1 ∧ ¬a.2.1 y = n2 ∧ ¬a.2.1 y = n4 ∧ ¬a.2.1 y = n5 ∧ ¬a.2.1 y = nP ∧ ¬a.2.1 y = n6 ∧ ¬a.2.1 y = nW ∧ ¬a.2.1 y = nO) (fun a => L.length - a.1) (0, (fun _ => 0), (fun _ => 0)) ⟨Nat.zero_le _, inj_zero _, fun y h => absurd h (Nat.not_lt_zero y)⟩ (by simp -implicitDefEqProofs only [go_sem, iA]) (by rw [rowsH_zero, List.append_nil]; exact Has.refl _) ?_
    rintro ⟨i, ns, vs⟩ ⟨hi, hI, hne⟩
    simp only at hi hI hne
    simp -implicitDefEqProofs only [go_sem, iA]
    by_cases hil : i < L.length
    rotate_left
    · obtain rfl : i = L.length := by omega
      simp -implicitDefEqProofs only [go_sem, dlt_false hil]
      refine AW.drawF tok hmix [] [103] [(n5, .cells 39 [.own nO vO])] (by kernel_rfl) ?_ ?_
      · (repeat (first | exact List.Sublist.cons_cons _ (List.nil_sublist _) | apply List.Sublist.cons))
      simp -implicitDefEqProofs only [go_sem, not_false_eq_true, hget_skip, hset_skip, List.append_assoc, rowsH_names, hN, hn2, hn4, hn5, hnP, hn6, hnW, hnO]
      refine ⟨.inr (by repeat (first | exact List.Sublist.cons_cons _ (List.nil_sublist _) | apply List.Sublist.cons)), ?_⟩
      have hfO : Fz ([(n1, .cells 25 [strsA s.acts, .imm 2 (stC s.sts)]), (n4, .cells 25 [strsA s.acts, .own nW vW]), (n5, .cells 39 [.own nO vO]), (nP, .row 3 1 vP (plC N L)), (n6, .cells 39 [.own nP vP]), (nW, .row 85 2 vW (trimC s k L L.length ns vs)), (nO, .row 3 1 vO ((natsI L).map iA))] ++ rowsH L.length 3 1 ns vs (fun j => (trimRow s k (L.getD j 0) L).map iA)) (.own nO vO) (.imm 1 ((natsI L).map iA)) := Fz.rowS (t := 3) (by simp) (Fzs.refl _)
      have hst : stC (L.map (trimX s k)) = c2 (fun j => intsA (natsI (gdL s k (L.getD j 0)))) (fun j => intsA (trimRow s k (L.getD j 0) L)) (List.range L.length) := by
        have eL : (List.range L.length).map (fun j => L.getD j 0) = L := by
          refine List.ext_getElem (by simp) fun j h1 h2 => by simp [h2]
        conv => lhs; rw [← eL]
        unfold stC
        rw [List.map_map, c2_map]
        refine c2_congr fun j _ => ⟨rfl, ?_⟩
        simp only [Function.comp, trimX, ← hL]
      have hfW : Fz ([(n1, .cells 25 [strsA s.acts, .imm 2 (stC s.sts)]), (n4, .cells 25 [strsA s.acts, .own nW vW]), (n5, .cells 39 [.own nO vO]), (nP, .row 3 1 vP (plC N L)), (n6, .cells 39 [.own nP vP]), (nW, .row 85 2 vW (trimC s k L L.length ns vs)), (nO, .row 3 1 vO ((natsI L).map iA))] ++ rowsH L.length 3 1 ns vs (fun j => (trimRow s k (L.getD j 0) L).map iA)) (.own nW vW) (.imm 2 (stC (L.map (trimX s k)))) := by
        refine Fz.rowS (t := 85) (xs := trimC s k L L.length ns vs) (by simp) ?_
        rw [hst]
        refine fzs_c2 fun j hj => ⟨Fz.refl _, ?_⟩
        have hj' : j < L.length := by simpa using hj
        rw [if_pos hj']
        exact Fz.rowS (t := 3) (xs := (trimRow s k (L.getD j 0) L).map iA) (List.mem_append_right _ (List.mem_map.2 ⟨j, hj, rfl⟩)) (Fzs.refl _)
      refine fnPost_fz ([(n1, .cells 25 [strsA s.acts, .imm 2 (stC s.sts)]), (n4, .cells 25 [strsA s.acts, .own nW vW]), (n5, .cells 39 [.own nO vO]), (nP, .row 3 1 vP (plC N L)), (n6, .cells 39 [.own nP vP]), (nW, .row 85 2 vW (trimC s k L L.length ns vs)), (nO, .row 3 1 vO ((natsI L).map iA))] ++ rowsH L.length 3 1 ns vs (fun j => (trimRow s k (L.getD j 0) L).map iA)) [(n2, .cells 25 [strsA s.acts, .own nW vW])] (t' := slots 104 [(2, .ptr n2 0), (3, .imm 1 ((natsI L).map iA))]) (B' := [(n2, .cells 25 [strsA s.acts, .imm 2 (stC (L.map (trimX s k)))])]) ?_ ?_ (FzH.cons (.cells (Fzs.cons (Fz.refl _) (Fzs.cons hfW Fzs.nil))) FzH.nil) ?_
      · classical
        exact List.perm_iff_count.2 fun z => by simp only [List.count_append, List.count_cons, List.count_nil, List.cons_append, List.nil_append]; omega
      · simp -implicitDefEqProofs only [go_sem]
        repeat (first | exact Fzs.nil | refine Fzs.cons (Fz.refl _) ?_ | refine Fzs.cons hfO ?_ | refine Fzs.cons (Fz.junk _) ?_)
      simp -implicitDefEqProofs only [go_sem]
      refine fnPost_ret tok ?_
      simp -implicitDefEqProofs only [go_sem, Tryz.results45]
      rw [htr]; rfl
    obtain ⟨x, hx⟩ : ∃ x, x = L[i] := ⟨_, rfl⟩
    have hxs : x < s.sts.length := hx ▸ hLl _ (List.getElem_mem hil)
    have hxN : x < N := by omega
    have g1 := natsI_at hil
    rw [← hx] at g1
    simp only [iA, aint] at g1
    have g2 := trimC_get0 (s := s) (k := k) (i := i) (ns := ns) (vs := vs) hil
    rw [← hx] at g2
    have g3 : i * 2 + 2 ≤ (trimC s k L i ns vs).length ∧ i * 2 < (trimC s k L i ns vs).length ∧ i * 2 + 1 < (trimC s k L i ns vs).length := by rw [trimC_len]; omega
    simp -implicitDefEqProofs only [go_sem, dlt_true hil, not_false_eq_true, hget_skip, hset_skip, List.append_assoc, rowsH_names, hN, hn2, hn4, hn5, hnP, hn6, hnW, hnO, hil, g1, List.length_map, natsI_length]
    refine newK_intro fun n10 hn10 => ?_
    try simp -implicitDefEqProofs only [hset, rowsH_names, frt] at hn10
    simp -implicitDefEqProofs only [go_sem, not_false_eq_true, hget_skip, hset_skip, List.append_assoc, rowsH_names, hN, hn2, hn4, hn5, hnP, hn6, hnW, hnO, hn10, g2, g3, intsA, List.length_map, natsI_length]
    have hp8 := pow8 hk8
    have hgl : (gdL s k x).length ≤ 256 := Nat.le_trans (List.length_filter_le _ _) (hv.acc_len hxs)
    refine AW.loopP tok (α := Nat) (fun j => slots 104 [(1, .ptr n1 0), (2, .ptr n2 0), (4, .ptr n4 0), (5, .ptr n5 0), (6, .ptr n6 0), (50, .own nO vO), (51, iA L.length), (52, iA i), (9, iA i), (10, .ptr n10 0), (11, iA (orN ((gdL s k x).take j))), (62, .imm 1 ((natsI (gdL s k x)).map iA)), (63, iA (gdL s k x).length), (64, iA j)])
      (fun j => [(n1, .cells 25 [strsA s.acts, .imm 2 (stC s.sts)]), (n2, .cells 25 [.raw (.slice none 0 0), .raw (.slice none 0 0)]), (n4, .cells 25 [strsA s.acts, .own nW vW]), (n5, .cells 39 [.own nO vO]), (nP, .row 3 1 vP (plC N L)), (n6, .cells 39 [.own nP vP]), (nW, .row 85 2 vW (trimC s k L i ns vs)), (nO, .row 3 1 vO ((natsI L).map iA))] ++ (rowsH i 3 1 ns vs (fun j => (trimRow s k (L.getD j 0) L).map iA) ++ [(n10, .cells 3 [.raw (.int .i64 x)])])) (fun j => j ≤ (gdL s k x).length) (fun j => (gdL s k x).length - j) 0 (Nat.zero_le _) (by simp -implicitDefEqProofs only [go_sem, iA, orN, List.take_zero, List.foldl_nil, Int.natCast_zero]) (Has.refl _) ?_
    intro j hj
    simp -implicitDefEqProofs only [go_sem, iA]
    by_cases hjl : j < (gdL s k x).length
    · have g4 := natsI_at hjl
      simp only [iA, aint] at g4
      have hvk : (gdL s k x)[j] < 2 ^ k := hv.acc_lt hxs (gdL_mem (List.getElem_mem hjl))
      have hol : orN ((gdL s k x).take j) < 2 ^ k := orN_lt fun w hw => hv.acc_lt hxs (gdL_mem (List.mem_of_mem_take hw))
      have hor := bit2_or (orN ((gdL s k x).take j)) (gdL s k x)[j] (by omega) (by omega)
      have et : orN ((gdL s k x).take (j + 1)) = orN ((gdL s k x).take j) ||| (gdL s k x)[j] := by rw [List.take_succ_eq_append_getElem hjl, orN_snoc]
      simp -implicitDefEqProofs only [go_sem, dlt_true hjl, hjl, g4, List.length_map, natsI_length, hor, wrap_up hjl (by omega)]
      exact ⟨j + 1, hjl, by omega, by simp -implicitDefEqProofs only [go_sem, et], Has.refl _⟩
    obtain rfl : j = (gdL s k x).length := by omega
    have hus : orN ((gdL s k x).take (gdL s k x).length) = usedN s k x := by rw [List.take_length]; rfl
    rw [hus]
    simp -implicitDefEqProofs only [go_sem, dlt_false hjl]
    refine opK_lit tok T39 rfl T3 (by decide) (by simp -implicitDefEqProofs only [go_sem, zrep, List.flatten_cons, List.flatten_nil]; rfl) ?_
    simp -implicitDefEqProofs only [go_sem, not_false_eq_true, hget_skip, hset_skip, List.append_assoc, rowsH_names, hN, hn2, hn4, hn5, hnP, hn6, hnW, hnO, strsA, List.length_map, hal, Nat.div_one]
    refine opK_call [] ([(n1, .cells 25 [strsA s.acts, .imm 2 (stC s.sts)]), (n2, .cells 25 [.raw (.slice none 0 0), .raw (.slice none 0 0)]), (n4, .cells 25 [strsA s.acts, .own nW vW]), (n5, .cells 39 [.own nO vO]), (nP, .row 3 1 vP (plC N L)), (n6, .cells 39 [.own nP vP]), (nW, .row 85 2 vW (trimC s k L i ns vs)), (nO, .row 3 1 vO ((natsI L).map iA))] ++ (rowsH i 3 1 ns vs (fun j => (trimRow s k (L.getD j 0) L).map iA) ++ [(n10, .cells 3 [.raw (.int .i64 x)])])) rfl (Repeat_ok (-1) k hk8) rfl (Sub.of_eq (by simp -implicitDefEqProofs only [go_sem, iA])) (List.Perm.of_eq (List.append_nil _)) ?_
    rintro r H1' ⟨nX, vX, rfl, rfl⟩ hnX
    have hnX := (List.nodup_append.1 (by rw [List.map_append] at hnX; exact hnX)).2.2
    have hnX : ¬ nX ∈ List.map (fun x => x.1) ([(n1, .cells 25 [strsA s.acts, .imm 2 (stC s.sts)]), (n2, .cells 25 [.raw (.slice none 0 0), .raw (.slice none 0 0)]), (n4, .cells 25 [strsA s.acts, .own nW vW]), (n5, .cells 39 [.own nO vO]), (nP, .row 3 1 vP (plC N L)), (n6, .cells 39 [.own nP vP]), (nW, .row 85 2 vW (trimC s k L i ns vs)), (nO, .row 3 1 vO ((natsI L).map iA))] ++ (rowsH i 3 1 ns vs (fun j => (trimRow s k (L.getD j 0) L).map iA) ++ [(n10, .cells 3 [.raw (.int .i64 x)])])) := fun h => hnX _ h _ (by simp) rfl
    try simp -implicitDefEqProofs only [hset, rowsH_names, frt] at hnX
    rw [trP_zero s k x L]
    simp -implicitDefEqProofs only [go_sem]
    refine newK_intro fun n14 hn14 => ?_
    try simp -implicitDefEqProofs only [hset, rowsH_names, frt] at hn14
    simp -implicitDefEqProofs only [go_sem, not_false_eq_true, hget_skip, hset_skip, List.append_assoc, rowsH_names, hN, hn2, hn4, hn5, hnP, hn6, hnW, hnO, hn10, hnX, hn14]
    refine opK_call [] ([(n1, .cells 25 [strsA s.acts, .imm 2 (stC s.sts)]), (n2, .cells 25 [.raw (.slice none 0 0), .raw (.slice none 0 0)]), (n4, .cells 25 [strsA s.acts, .own nW vW]), (n5, .cells 39 [.own nO vO]), (nP, .row 3 1 vP (plC N L)), (n6, .cells 39 [.own nP vP]), (nW, .row 85 2 vW (trimC s k L i ns vs)), (nO, .row 3 1 vO ((natsI L).map iA))] ++ (rowsH i 3 1 ns vs (fun j => (trimRow s k (L.getD j 0) L).map iA) ++ [(n10, .cells 3 [.raw (.int .i64 x)]), (nX, .row 3 1 vX (trP s k x L (0))), (n14, .cells 39 [.own nX vX])])) rfl (In_ok (usedN s k x)) rfl (Sub.of_eq (by first | rfl | simp -implicitDefEqProofs only [go_sem, iA])) (List.Perm.of_eq (by simp -implicitDefEqProofs only [go_sem, List.append_assoc, List.append_nil])) ?_
    rintro c H1' ⟨nC2, rfl, rfl⟩ hnC2
    simp -implicitDefEqProofs only [go_sem, not_false_eq_true, hget_skip, hset_skip, List.append_assoc, rowsH_names, hN, hn2, hn4, hn5, hnP, hn6, hnW, hnO, hn10, hnX, hn14]
    refine AW.rangeP tok ([(n1, .cells 25 [strsA s.acts, .imm 2 (stC s.sts)]), (n2, .cells 25 [.raw (.slice none 0 0), .raw (.slice none 0 0)]), (n4, .cells 25 [strsA s.acts, .own nW vW]), (n5, .cells 39 [.own nO vO]), (nP, .row 3 1 vP (plC N L)), (n6, .cells 39 [.own nP vP]), (nW, .row 85 2 vW (trimC s k L i ns vs)), (nO, .row 3 1 vO ((natsI L).map iA))] ++ (rowsH i 3 1 ns vs (fun j => (trimRow s k (L.getD j 0) L).map iA) ++ [(n10, .cells 3 [.raw (.int .i64 x)]), (nX, .row 3 1 vX (trP s k x L (0))), (n14, .cells 39 [.own nX vX])])) [(nC2, .cells 3 [iA (usedN s k x)])] rfl (In_iter k (usedN s k x) (by omega) (usedN_lt hv hxs) nC2) (List.Perm.of_eq (by simp -implicitDefEqProofs only [go_sem, List.append_assoc])) (fun i hi => by simp)
      (fun m Hx => Hx = [(n1, .cells 25 [strsA s.acts, .imm 2 (stC s.sts)]), (n2, .cells 25 [.raw (.slice none 0 0), .raw (.slice none 0 0)]), (n4, .cells 25 [strsA s.acts, .own nW vW]), (n5, .cells 39 [.own nO vO]), (nP, .row 3 1 vP (plC N L)), (n6, .cells 39 [.own nP vP]), (nW, .row 85 2 vW (trimC s k L i ns vs)), (nO, .row 3 1 vO ((natsI L).map iA))] ++ (rowsH i 3 1 ns vs (fun j => (trimRow s k (L.getD j 0) L).map iA) ++ [(n10, .cells 3 [.raw (.int .i64 x)]), (nX, .row 3 1 vX (trP s k x L (m))), (n14, .cells 39 [.own nX vX])])) (fun _ _ => False) rfl ?_ ?_ ?_
    · rintro m hm Hx l rfl
      have hm' : m < (bits k (usedN s k x)).length := by simpa using hm
      simp only [List.getElem_map]
      obtain ⟨b, hb⟩ : ∃ b, (bits k (usedN s k x))[m] = b := ⟨_, rfl⟩
      have hmem : b ∈ bits k (usedN s k x) := hb ▸ List.getElem_mem hm'
      obtain ⟨hb1, hb2⟩ := List.mem_filter.1 hmem
      obtain ⟨hbk, hb0, hb3⟩ := used_nx hv hxs hb2
      obtain ⟨z, hz⟩ : ∃ z : Nat, s.nx x b = (z : Int) := ⟨(s.nx x b).toNat, by omega⟩
      have hzN : z < N := by omega
      have hzN1 : z + 1 ≤ N := hzN
      have x2 := hv.nx_cell hxs hbk
      rw [hz] at x2
      have hrl := hv.rowlen hxs
      rw [Sp.row_eq hxs] at hrl
      have hbl : b < s.sts[x].2.length := by omega
      have hbk1 : b + 1 ≤ k := hbk
      have hzL : z ∈ L := hLc x (hx ▸ List.getElem_mem hil) z (List.mem_map.2 ⟨b, hmem, by omega⟩)
      have e1 := stC_get1 s.sts x hxs
      obtain ⟨e2, e3, e4⟩ := stC_in hxs
      rw [hb]
      simp -implicitDefEqProofs only [go_sem, not_false_eq_true, hget_skip, hset_skip, List.append_assoc, rowsH_names, hN, hn2, hn4, hn5, hnP, hn6, hnW, hnO, hn10, hnX, hn14, iA]
      refine AW.draw tok hmix ⟨[], [], [], false⟩ (by kernel_rfl) (Has.of_sub (List.nil_sublist _)) ?_
      simp -implicitDefEqProofs only [go_sem, not_false_eq_true, hget_skip, hset_skip, List.append_assoc, rowsH_names, hN, hn2, hn4, hn5, hnP, hn6, hnW, hnO, hn10, hnX, hn14, e1, e2, e3, e4, intsA, x2, hbl, hzN, plC_len, plC_get hzN hzL, trP_len, hbk, hbk1, trP_set hm' hb hbk hz, iA]
      exact ⟨_, List.Sublist.refl _, rfl⟩
    · rintro Hx rfl
      rw [List.length_map, trP_full]
      have es : List.take (i * 2 + 1) (trimC s k L i ns vs) ++ .own nX vX :: List.drop (i * 2 + 1 + 1) (trimC s k L i ns vs) = trimC s k L (i + 1) (upd ns i nX) (upd vs i vX) := by
        rw [take_setC g3.2.2, trimC_set hil]
      simp -implicitDefEqProofs only [go_sem, not_false_eq_true, hget_skip, hset_skip, List.append_assoc, rowsH_names, hN, hn2, hn4, hn5, hnP, hn6, hnW, hnO, hn10, hnX, hn14, g3, trimC_div, hil, es, wrap_up hil (by omega)]
      have hXr : ¬ nX ∈ (List.range i).map ns := by simp only [hnX, not_false_eq_true]
      have hXn : ¬nX = n1 ∧ ¬nX = n2 ∧ ¬nX = n4 ∧ ¬nX = n5 ∧ ¬nX = nP ∧ ¬nX = n6 ∧ ¬nX = nW ∧ ¬nX = nO := by simp only [hnX, not_false_eq_true, and_self]
      refine ⟨(i + 1, upd ns i nX, upd vs i vX), ⟨hil, inj_snoc hI hXr, fun y hy => ?_⟩, by simp only; omega, by simp -implicitDefEqProofs only [go_sem], ?_⟩
      · by_cases e : y = i
        · subst e; simp only [upd_same]; exact hXn
        · simp only [upd_ne e]; exact hne y (by omega)
      have e9 : rowsH (i + 1) 3 1 (upd ns i nX) (upd vs i vX) (fun j => (trimRow s k (L.getD j 0) L).map iA) = rowsH i 3 1 ns vs (fun j => (trimRow s k (L.getD j 0) L).map iA) ++ [(nX, .row 3 1 vX ((trimRow s k x L).map iA))] := by
        rw [rowsH_add]
        refine rowsH_congr fun y hy => ⟨rfl, rfl, ?_⟩
        by_cases e : y = i
        · subst e; rw [upd_same, gd hil, hx]
        · rw [upd_ne e]
      simp only [e9]
      refine ⟨[(n10, .cells 3 [.raw (.int .i64 x)]), (n14, .cells 39 [.own nX vX])], ?_⟩
      classical
      exact List.perm_iff_count.2 fun z => by simp only [strsA, List.count_append, List.count_cons, List.count_nil, List.cons_append, List.nil_append]; omega
    · exact fun e c Hx _ h => h.elim
  · exact fun e c Hx _ h => h.elim
open Go Go.NS
open Go Go.NS
section
variable {s : Sp} {k : Nat}
theorem trimS_sts (hne : leftN s k ≠ []) : trimS s k = ⟨s.acts, (leftN s k).map (trimX s k)⟩ := by unfold trimS; rw [if_neg hne]
theorem gdL_inc (hv : s.Val k) {x : Nat} (hx : x < s.sts.length) : (gdL s k x).Pairwise (· < ·) := by
  have h := hv.acc_inc hx
  rw [hv.acc_eq hx] at h
  have h2 : (s.acc x).Pairwise (· < ·) := by
    have := List.pairwise_map.1 h
    exact this.imp fun hab => by omega
  exact h2.filter _
theorem trimS_val (hv : s.Val k) (hne : leftN s k ≠ []) : (trimS s k).Val k := by
  obtain ⟨hLn, hLl, hLc⟩ := left_ok hv
  rw [trimS_sts hne]
  have hpos : 0 < (leftN s k).length := List.length_pos_iff.2 hne
  have hlen := nodup_lt hLn hLl
  have hfew := hv.few
  refine ⟨hv.a, hv.len, hv.k8, by simpa using hpos, by simp only [List.length_map]; omega, fun z hz => ?_, fun z hz => ?_, fun z hz => ?_⟩
  · obtain ⟨x, hx, rfl⟩ := List.mem_map.1 hz
    simp [trimX, trimRow]
  · obtain ⟨x, hx, rfl⟩ := List.mem_map.1 hz
    refine List.all_eq_true.2 fun t ht => ?_
    simp only [trimX, trimRow, List.mem_map, List.mem_range] at ht
    obtain ⟨a, ha, rfl⟩ := ht
    simp only [List.length_map, Bool.and_eq_true, decide_eq_true_eq]
    split
    · rename_i hb
      have hm : (s.nx x a).toNat ∈ leftN s k := hLc x hx _ (List.mem_map.2 ⟨a, by simp [bits, ha, hb], rfl⟩)
      have := List.idxOf_lt_length_of_mem hm
      omega
    · omega
  · obtain ⟨x, hx, rfl⟩ := List.mem_map.1 hz
    have hxs := hLl x hx
    refine accB_all fun i hi => ?_
    simp only [trimX, natsI_length] at hi
    have e : ∀ j (h : j < (natsI (gdL s k x)).length), (natsI (gdL s k x))[j] = (((gdL s k x)[j]'(by simpa [natsI] using h) : Nat) : Int) := fun j h => by simp [natsI]
    simp only [trimX]
    refine ⟨by rw [e]; omega, ?_, fun h0 => ?_⟩
    · rw [e, Int.toNat_natCast, andNot_zero]
      intro a ha
      have hu : (usedN s k x).testBit a = true := by rw [usedN, orN_bit, List.any_eq_true]; exact ⟨_, List.getElem_mem hi, ha⟩
      obtain ⟨h1, h2, h3⟩ := used_nx hv hxs hu
      rw [canN_bit]
      simp [trimRow, h1, hu]
    · rw [e, e]
      have := List.pairwise_iff_getElem.1 (gdL_inc hv hxs) (i - 1) i (by omega) hi (by omega)
      omega
theorem bfsN_all {S : Nat → List Nat} {Q : Nat → Prop} (hS : ∀ x, Q x → ∀ y ∈ S x, Q y) : ∀ (f i : Nat) (q : List Nat), (∀ y ∈ q, Q y) → ∀ y ∈ bfsN S f i q, Q y
  | 0, _, _, h => h
  | f + 1, i, q, h => by
    rw [bfsN]
    split
    · rename_i hi
      refine bfsN_all hS f _ _ fun y hy => ?_
      rcases (mem_pushN _).1 hy with hy | hy
      · exact h y hy
      · exact hS _ (h _ (List.getElem_mem hi)) y hy
    · exact h
theorem good_of {x v : Nat} (hv : s.Val k) (hx : x < s.sts.length) (h : v ∈ gdL s k x) {b : Nat} (hb : v.testBit b = true) : holB s (s.nx x b).toNat = false := by
  obtain ⟨h1, h2⟩ := List.mem_filter.1 h
  have hbk := (hv.acc_nx hx h1 hb).1
  have := List.all_eq_true.1 h2 b (by simp [bits, hbk, hb])
  simpa using this
theorem left_solid (hv : s.Val k) : ∀ x ∈ leftN s k, x < s.sts.length ∧ holB s x = false := by
  unfold leftN
  split
  · intro x h; simp at h
  · rename_i h0
    refine bfsN_all (fun x hx y hy => ?_) _ _ _ fun y hy => ?_
    · refine ⟨sucN_lt hv hx.1 hy, ?_⟩
      obtain ⟨b, hb, rfl⟩ := List.mem_map.1 hy
      have hu := (List.mem_filter.1 hb).2
      rw [usedN, orN_bit, List.any_eq_true] at hu
      obtain ⟨v, h1, h2⟩ := hu
      exact good_of hv hx.1 h1 h2
    · simp at hy; subst hy
      exact ⟨hv.pos, by simpa using h0⟩
theorem gd_ne (hv : s.Val k) {x : Nat} (hx : x ∈ leftN s k) : gdL s k x ≠ [] := by
  obtain ⟨h1, h2⟩ := left_solid hv x hx
  intro h3
  have : Hol s x := Hol.of h1 fun v hm => by
    have hg : goodB s k x v = false := by
      cases hg : goodB s k x v with
      | false => rfl
      | true => have : v ∈ gdL s k x := List.mem_filter.2 ⟨hm, hg⟩; rw [h3] at this; simp at this
    unfold goodB at hg
    obtain ⟨b, hb, hb2⟩ := List.all_eq_false.1 hg
    refine ⟨b, (List.mem_filter.1 hb).2, holB_iff.1 ?_⟩
    simpa using hb2
  rw [holB_iff.2 this] at h2
  cases h2
end
open Go Go.NS
open Go Go.NS
open Go Go.NS
end Go.Proofs.YtfininfcljdkbaaGreat
