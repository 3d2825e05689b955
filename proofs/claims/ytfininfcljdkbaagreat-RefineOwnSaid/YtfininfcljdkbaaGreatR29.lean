/- The law RefineOwn. -/
import Derived.Test.YtfininfcljdkbaaGreatR28
set_option linter.unusedSimpArgs false
set_option linter.unusedVariables false
namespace Go.Proofs.YtfininfcljdkbaaGreat
open Go Go.NS
theorem noK2 (b : Bool) (e : Int) : NoK (.tup [abool b, iA e]) := NoK.tup fun x hx => by
  rcases List.mem_cons.1 hx with rfl | hx
  · exact .raw _
  · rw [List.mem_singleton.1 hx]; exact .raw _
set_option maxRecDepth 4000 in
set_option maxHeartbeats 16000000 in
theorem RefineOwn_ok (s t : Sp) (hs : s.Small) (ht : t.Small) (hf : s.Fit) (hg : t.Fit) : Fp Tryz.prog 7 [s.av, t.av] (abool true) := by
  have hss : s.sameB s = true := by simp [Sp.sameB]
  have htt : t.sameB t = true := by simp [Sp.sameB]
  have hd2 : ∀ m : Nat, m * 2 / 2 = m := fun m => by omega
  refine Fp.of_vc tok Tryz.func7 rfl (by decide) ?_
  simp -implicitDefEqProofs only [go_sem, Tryz.ntmps7, Sp.av, Sp.cells]
  refine newK_intro fun n2 hn2 => ?_
  try simp -implicitDefEqProofs only [hset, frt] at hn2
  simp -implicitDefEqProofs only [go_sem]
  refine newK_intro fun n3 hn3 => ?_
  try simp -implicitDefEqProofs only [hset, frt] at hn3
  simp -implicitDefEqProofs only [go_sem, hn3, not_false_eq_true]
  refine opK_pure (light5_ok s hs) rfl (Sub.of_eq (by first | rfl | simp -implicitDefEqProofs only [go_sem])) ?_
  simp -implicitDefEqProofs only [go_sem, hn3, not_false_eq_true]
  cases hL1 : (decide ((s.sts.length : Int) ≤ 40) && s.fewB 1000) with
  | false =>
    simp -implicitDefEqProofs only [go_sem, hn3, not_false_eq_true]
    refine opK_pure (awake5_ok) rfl (Sub.of_eq (by first | rfl | simp -implicitDefEqProofs only [go_sem])) ?_
    simp -implicitDefEqProofs only [go_sem, hn3, not_false_eq_true]
    refine fnPost_ret tok ?_
    simp -implicitDefEqProofs only [go_sem, Tryz.results7]
  | true =>
  simp -implicitDefEqProofs only [go_sem, hn3, not_false_eq_true]
  refine opK_pure (light5_ok t ht) rfl (Sub.of_eq (by first | rfl | simp -implicitDefEqProofs only [go_sem])) ?_
  simp -implicitDefEqProofs only [go_sem, hn3, not_false_eq_true]
  cases hL2 : (decide ((t.sts.length : Int) ≤ 40) && t.fewB 1000) with
  | false =>
    simp -implicitDefEqProofs only [go_sem, hn3, not_false_eq_true]
    refine opK_pure (awake5_ok) rfl (Sub.of_eq (by first | rfl | simp -implicitDefEqProofs only [go_sem])) ?_
    simp -implicitDefEqProofs only [go_sem, hn3, not_false_eq_true]
    refine fnPost_ret tok ?_
    simp -implicitDefEqProofs only [go_sem, Tryz.results7]
  | true =>
  simp -implicitDefEqProofs only [go_sem, hn3, not_false_eq_true]
  clear hL1 hL2
  refine AW.draw tok hmix ⟨[], [], [], false⟩ (by kernel_rfl) (Has.of_sub (List.nil_sublist _)) ?_
  simp -implicitDefEqProofs only [go_sem, hn3, not_false_eq_true]
  refine opK_pure (CopyS_ok s hs) rfl (Sub.of_eq (by first | rfl | simp -implicitDefEqProofs only [go_sem])) ?_
  simp -implicitDefEqProofs only [go_sem, hn3, not_false_eq_true]
  refine opK_pure (CopyS_ok t ht) rfl (Sub.of_eq (by first | rfl | simp -implicitDefEqProofs only [go_sem])) ?_
  simp -implicitDefEqProofs only [go_sem, hn3, not_false_eq_true, Sp.av, Sp.cells]
  refine newK_intro fun n5 hn5 => ?_
  try simp -implicitDefEqProofs only [hset, frt] at hn5
  simp -implicitDefEqProofs only [go_sem, hn3, not_false_eq_true, hn5]
  refine newK_intro fun n6 hn6 => ?_
  try simp -implicitDefEqProofs only [hset, frt] at hn6
  simp -implicitDefEqProofs only [go_sem, hn3, not_false_eq_true, hn5, hn6]
  refine AW.loopP tok (α := Nat) (fun k => slots 146 [(2, .ptr n2 0), (3, .ptr n3 0), (5, .ptr n5 0), (6, .ptr n6 0), (25, iA k)]) (fun _ => [(n2, .cells 25 [strsA s.acts, .imm 2 (stC s.sts)]), (n3, .cells 25 [strsA t.acts, .imm 2 (stC t.sts)]), (n5, .cells 25 [strsA s.acts, .imm 2 (stC s.sts)]), (n6, .cells 25 [strsA t.acts, .imm 2 (stC t.sts)])]) (fun k => k ≤ 2) (fun k => 2 - k) 0 (by omega) (by simp -implicitDefEqProofs only [go_sem, iA]) (Has.refl _) ?_
  rintro k hk
  simp -implicitDefEqProofs only [go_sem, iA]
  by_cases hk2 : k < 2
  rotate_left
  · have d : decide ((k : Int) < 2) = false := decide_eq_false (by omega)
    simp -implicitDefEqProofs only [go_sem, d, hn3, not_false_eq_true, hn5, hn6]
    refine opK_pure (awake5_ok) rfl (Sub.of_eq (by first | rfl | simp -implicitDefEqProofs only [go_sem])) ?_
    simp -implicitDefEqProofs only [go_sem, hn3, not_false_eq_true]
    refine fnPost_ret tok ?_
    simp -implicitDefEqProofs only [go_sem, Tryz.results7]
  have d : decide ((k : Int) < 2) = true := decide_eq_true (by omega)
  simp -implicitDefEqProofs only [go_sem, d, hn3, not_false_eq_true, hn5, hn6]
  refine opK_call [] [(n2, .cells 25 [strsA s.acts, .imm 2 (stC s.sts)]), (n3, .cells 25 [strsA t.acts, .imm 2 (stC t.sts)]), (n5, .cells 25 [strsA s.acts, .imm 2 (stC s.sts)]), (n6, .cells 25 [strsA t.acts, .imm 2 (stC t.sts)])] rfl (RefinesO_own s t hs ht hf hg) rfl (Sub.of_eq (by first | rfl | simp -implicitDefEqProofs only [go_sem, Sp.av, Sp.cells])) (List.Perm.of_eq (List.append_nil _)) ?_
  rintro x1 HV ⟨v, y, ⟨hv, hri⟩, hov, rfl⟩ hnd
  have hov1 := hov
  obtain ⟨nL, vL, nP, vP, nA, vA, nO, vO, es, ws, rfl, hHV⟩ := hov
  obtain ⟨HY, hHY⟩ : ∃ HY : AHeap, HY = [(nA, .row 9 1 vA (v.wit.acts.map sA)), (nO, .row 98 1 vO (ownsC v.wit.sts.length es ws))] ++ rowsH v.wit.sts.length 101 2 es ws (fun j => pc (v.wit.row j)) := ⟨_, rfl⟩
  have hcp : Fk Tryz.prog HY 23 [.agg [.own nA vA, .own nO vO]] v.wit.av := by rw [hHY]; exact CopyYo_ok v.wit hv.w
  have hwr : Fc Tryz.prog 40 [.agg [.own nA vA, .own nO vO]] HY fun _ H' => H' = [] := by rw [hHY]; exact WreckO_ok v.wit hv.w
  have hfY : Fz HY (.agg [.own nA vA, .own nO vO]) v.wit.av := by
    refine Fz.aggS (Fzs.cons (Fz.rowS (t := 9) (by rw [hHY]; simp) (Fzs.refl _)) (Fzs.cons ?_ Fzs.nil))
    refine Fz.rowS (t := 98) (xs := ownsC v.wit.sts.length es ws) (by rw [hHY]; simp) ?_
    rw [rowsSy]
    exact Fzs.map fun k hk => Fz.rowS (t := 101) (by rw [hHY]; exact List.mem_append_right _ (List.mem_map.2 ⟨k, hk, rfl⟩)) (Fzs.refl _)
  obtain rfl : HV = [(nL, .row 3 1 vL (v.lad.map iA)), (nP, .row 80 2 vP (pc v.pairs))] ++ HY := by rw [hHV, hHY]; rfl
  clear hHV
  have hfP : Fz [(nL, .row 3 1 vL (v.lad.map iA)), (nP, .row 80 2 vP (pc v.pairs))] (.agg [.own nL vL, .own nP vP]) (Pf.av ⟨v.lad, v.pairs⟩) :=
    Fz.aggS (Fzs.cons (Fz.rowS (t := 3) (by simp) (Fzs.refl _)) (Fzs.cons (Fz.rowS (t := 80) (by simp) (Fzs.refl _)) Fzs.nil))
  have hsI : Fp Tryz.prog 36 [intsA v.lad, intsA v.lad] (abool true) := by
    have := SameInts_ok v.lad v.lad hv.l hv.l
    rwa [decide_eq_true rfl] at this
  have hsP : Fp Tryz.prog 37 [pairsA v.pairs, pairsA v.pairs] (abool true) := by
    have := SamePairs_ok v.pairs v.pairs hv.p hv.p
    rwa [decide_eq_true rfl] at this
  have hsY : Fp Tryz.prog 38 [v.wit.av, v.wit.av] (abool true) := by
    have := SameSy_ok v.wit v.wit hv.w hv.w
    rwa [show v.wit.sameB v.wit = true by simp [Sy.sameB]] at this
  have hvl := hv.l
  have hvp := hv.p
  obtain ⟨m, hm⟩ : ∃ m, v.lad.length = m := ⟨_, rfl⟩
  have hl0l : (v.lad.map iA).length = m := by rw [List.length_map, hm]
  rw [hm] at hvl
  rw [List.map_append, List.nodup_append] at hnd
  have hnL : ¬ nL ∈ List.map (fun x => x.1) ([(n2, .cells 25 [strsA s.acts, .imm 2 (stC s.sts)]), (n3, .cells 25 [strsA t.acts, .imm 2 (stC t.sts)]), (n5, .cells 25 [strsA s.acts, .imm 2 (stC s.sts)]), (n6, .cells 25 [strsA t.acts, .imm 2 (stC t.sts)])] : AHeap) := fun h => hnd.2.2 _ h nL (by simp) rfl
  have hnP : ¬ nP ∈ List.map (fun x => x.1) ([(n2, .cells 25 [strsA s.acts, .imm 2 (stC s.sts)]), (n3, .cells 25 [strsA t.acts, .imm 2 (stC t.sts)]), (n5, .cells 25 [strsA s.acts, .imm 2 (stC s.sts)]), (n6, .cells 25 [strsA t.acts, .imm 2 (stC t.sts)])] : AHeap) := fun h => hnd.2.2 _ h nP (by simp) rfl
  have f2 : ¬ n2 ∈ List.map (fun x : Nat × AObj => x.1) HY := fun h => hnd.2.2 n2 (by simp) n2 (by simpa using .inr (.inr (by simpa using h))) rfl
  have f3 : ¬ n3 ∈ List.map (fun x : Nat × AObj => x.1) HY := fun h => hnd.2.2 n3 (by simp) n3 (by simpa using .inr (.inr (by simpa using h))) rfl
  have f5 : ¬ n5 ∈ List.map (fun x : Nat × AObj => x.1) HY := fun h => hnd.2.2 n5 (by simp) n5 (by simpa using .inr (.inr (by simpa using h))) rfl
  have f6 : ¬ n6 ∈ List.map (fun x : Nat × AObj => x.1) HY := fun h => hnd.2.2 n6 (by simp) n6 (by simpa using .inr (.inr (by simpa using h))) rfl
  have h3 := hnd.2.1
  clear hnd
  rw [List.map_append, List.nodup_append] at h3
  have hPL : ¬ nP = nL := fun e => by have := h3.1; simp [e] at this
  have yL : ¬ nL ∈ List.map (fun x : Nat × AObj => x.1) HY := fun h => h3.2.2 nL (by simp) nL h rfl
  have yP : ¬ nP ∈ List.map (fun x : Nat × AObj => x.1) HY := fun h => h3.2.2 nP (by simp) nP h rfl
  clear h3
  try simp -implicitDefEqProofs only [hset, frt] at hnL
  try simp -implicitDefEqProofs only [hset, frt] at hnP
  simp -implicitDefEqProofs only [go_sem, hn3, not_false_eq_true, hn5, hn6, hnL, hnP, hPL, yL, yP, f2, f3, f5, f6, hget_skip, hset_skip, List.append_assoc, iA]
  refine newK_intro fun n7 hn7 => ?_
  try simp -implicitDefEqProofs only [hset, frt] at hn7
  simp -implicitDefEqProofs only [go_sem, hn3, not_false_eq_true, hn5, hn6, hnL, hnP, hPL, yL, yP, f2, f3, f5, f6, hget_skip, hset_skip, List.append_assoc, hn7]
  by_cases c0 : fineS s t = 0
  · have C := fineS_cmp c0
    have hR : Fp Tryz.prog 30 [s.av, t.av, v.av] (abool true) := by
      have := right5_ok s t C.m C.n v hv
      rwa [hri c0] at this
    simp -implicitDefEqProofs only [go_sem, c0, decide_true, hn3, not_false_eq_true, hn5, hn6, hnL, hnP, hPL, yL, yP, f2, f3, f5, f6, hget_skip, hset_skip, List.append_assoc, hn7]
    refine opK_k (Fp.borrow hR (Fzs.cons (.refl _) (Fzs.cons (.refl _) (Fzs.cons (hov1.fz fun _ hp => hp) Fzs.nil)))) ⟨[(n2, .cells 25 [strsA s.acts, .imm 2 (stC s.sts)]), (n3, .cells 25 [strsA t.acts, .imm 2 (stC t.sts)]), (n5, .cells 25 [strsA s.acts, .imm 2 (stC s.sts)]), (n6, .cells 25 [strsA t.acts, .imm 2 (stC t.sts)]), (n7, .cells 47 [.raw (.bool v.holds), .own nL vL, .own nP vP, .own nA vA, .own nO vO])], ?_⟩ rfl (Sub.of_eq (by first | rfl | simp -implicitDefEqProofs only [go_sem, Sp.av, Sp.cells])) ?_
    · skip
      classical
      exact List.perm_iff_count.2 fun z => by simp only [List.count_append, List.count_cons, List.count_nil, List.cons_append, List.nil_append, List.append_nil] <;> omega
    simp -implicitDefEqProofs only [go_sem, hn3, not_false_eq_true, hn5, hn6, hnL, hnP, hPL, yL, yP, f2, f3, f5, f6, hget_skip, hset_skip, List.append_assoc, hn7]
    refine AW.draw tok hmix ⟨[], [], [], false⟩ (by kernel_rfl) (Has.of_sub (List.nil_sublist _)) ?_
    simp -implicitDefEqProofs only [go_sem, hn3, not_false_eq_true, hn5, hn6, hnL, hnP, hPL, yL, yP, f2, f3, f5, f6, hget_skip, hset_skip, List.append_assoc, hn7]
    refine opK_k (twinO_ok ⟨v.lad, v.pairs⟩ ⟨hv.l, hv.p⟩ (nL := nL) (vL := vL) (nP := nP) (vP := vP)) ⟨[(n2, .cells 25 [strsA s.acts, .imm 2 (stC s.sts)]), (n3, .cells 25 [strsA t.acts, .imm 2 (stC t.sts)]), (n5, .cells 25 [strsA s.acts, .imm 2 (stC s.sts)]), (n6, .cells 25 [strsA t.acts, .imm 2 (stC t.sts)]), (n7, .cells 47 [.raw (.bool v.holds), .own nL vL, .own nP vP, .own nA vA, .own nO vO])] ++ HY, ?_⟩ rfl (Sub.of_eq (by simp -implicitDefEqProofs only [go_sem])) ?_
    · skip
      classical
      exact List.perm_iff_count.2 fun z => by simp only [List.count_append, List.count_cons, List.count_nil, List.cons_append, List.nil_append, List.append_nil] <;> omega
    simp -implicitDefEqProofs only [go_sem, hn3, not_false_eq_true, hn5, hn6, hnL, hnP, hPL, yL, yP, f2, f3, f5, f6, hget_skip, hset_skip, List.append_assoc, hn7, Pf.av]
    refine opK_k hcp ⟨[(n2, .cells 25 [strsA s.acts, .imm 2 (stC s.sts)]), (n3, .cells 25 [strsA t.acts, .imm 2 (stC t.sts)]), (n5, .cells 25 [strsA s.acts, .imm 2 (stC s.sts)]), (n6, .cells 25 [strsA t.acts, .imm 2 (stC t.sts)]), (nL, .row 3 1 vL (v.lad.map iA)), (nP, .row 80 2 vP (pc v.pairs)), (n7, .cells 47 [.raw (.bool v.holds), .own nL vL, .own nP vP, .own nA vA, .own nO vO])], ?_⟩ rfl (Sub.of_eq (by simp -implicitDefEqProofs only [go_sem])) ?_
    · skip
      classical
      exact List.perm_iff_count.2 fun z => by simp only [List.count_append, List.count_cons, List.count_nil, List.cons_append, List.nil_append, List.append_nil] <;> omega
    simp -implicitDefEqProofs only [go_sem, hn3, not_false_eq_true, hn5, hn6, hnL, hnP, hPL, yL, yP, f2, f3, f5, f6, hget_skip, hset_skip, List.append_assoc, hn7, Sy.av, Sy.cells]
    refine newK_intro fun n9 hn9 => ?_
    try simp -implicitDefEqProofs only [hset, frt] at hn9
    simp -implicitDefEqProofs only [go_sem, hn3, not_false_eq_true, hn5, hn6, hnL, hnP, hPL, yL, yP, f2, f3, f5, f6, hget_skip, hset_skip, List.append_assoc, hn7, hn9]
    refine opK_k (Fp.lend (IsProofS_ok s t hs ht hf hg ⟨v.lad, v.pairs⟩ ⟨hv.l, hv.p⟩) (Fzs.cons (.refl _) (Fzs.cons (.refl _) (Fzs.cons hfP Fzs.nil))) (noK2 _ _)) ⟨[(n2, .cells 25 [strsA s.acts, .imm 2 (stC s.sts)]), (n3, .cells 25 [strsA t.acts, .imm 2 (stC t.sts)]), (n5, .cells 25 [strsA s.acts, .imm 2 (stC s.sts)]), (n6, .cells 25 [strsA t.acts, .imm 2 (stC t.sts)]), (n7, .cells 47 [.raw (.bool v.holds), .own nL vL, .own nP vP, .own nA vA, .own nO vO]), (n9, .cells 47 [.raw (.bool v.holds), intsA v.lad, pairsA v.pairs, strsA v.wit.acts, .imm 1 (v.wit.sts.map pairsA)])] ++ HY, ?_⟩ rfl (Sub.of_eq (by first | rfl | simp -implicitDefEqProofs only [go_sem, Sp.av, Sp.cells])) ?_
    · skip
      classical
      exact List.perm_iff_count.2 fun z => by simp only [List.count_append, List.count_cons, List.count_nil, List.cons_append, List.nil_append, List.append_nil] <;> omega
    simp -implicitDefEqProofs only [go_sem, hn3, not_false_eq_true, hn5, hn6, hnL, hnP, hPL, yL, yP, f2, f3, f5, f6, hget_skip, hset_skip, List.append_assoc, hn7, hn9]
    refine opK_k (Fp.lend (RightS_ok s t hs ht hf hg v hv) (Fzs.cons (.refl _) (Fzs.cons (.refl _) (Fzs.cons (hov1.fz fun _ hp => hp) Fzs.nil))) (noK2 _ _)) ⟨[(n2, .cells 25 [strsA s.acts, .imm 2 (stC s.sts)]), (n3, .cells 25 [strsA t.acts, .imm 2 (stC t.sts)]), (n5, .cells 25 [strsA s.acts, .imm 2 (stC s.sts)]), (n6, .cells 25 [strsA t.acts, .imm 2 (stC t.sts)]), (n7, .cells 47 [.raw (.bool v.holds), .own nL vL, .own nP vP, .own nA vA, .own nO vO]), (n9, .cells 47 [.raw (.bool v.holds), intsA v.lad, pairsA v.pairs, strsA v.wit.acts, .imm 1 (v.wit.sts.map pairsA)])], ?_⟩ rfl (Sub.of_eq (by first | rfl | simp -implicitDefEqProofs only [go_sem, Sp.av, Sp.cells])) ?_
    · skip
      classical
      exact List.perm_iff_count.2 fun z => by simp only [List.count_append, List.count_cons, List.count_nil, List.cons_append, List.nil_append, List.append_nil] <;> omega
    simp -implicitDefEqProofs only [go_sem, hn3, not_false_eq_true, hn5, hn6, hnL, hnP, hPL, yL, yP, f2, f3, f5, f6, hget_skip, hset_skip, List.append_assoc, hn7, hn9]
    refine opK_pure (EqualS_ok s t hs ht hf hg) rfl (Sub.of_eq (by first | rfl | simp -implicitDefEqProofs only [go_sem, Sp.av, Sp.cells])) ?_
    simp -implicitDefEqProofs only [go_sem, hn3, not_false_eq_true, hn5, hn6, hnL, hnP, hPL, yL, yP, f2, f3, f5, f6, hget_skip, hset_skip, List.append_assoc, hn7, hn9]
    refine opK_pure (DepthS_ok s t hs ht hf hg) rfl (Sub.of_eq (by first | rfl | simp -implicitDefEqProofs only [go_sem, Sp.av, Sp.cells])) ?_
    simp -implicitDefEqProofs only [go_sem, hn3, not_false_eq_true, hn5, hn6, hnL, hnP, hPL, yL, yP, f2, f3, f5, f6, hget_skip, hset_skip, List.append_assoc, hn7, hn9]
    refine opK_k (Fp.borrow hsI (Fzs.cons (.refl _) (Fzs.cons (Fz.rowS (t := 3) (List.mem_singleton.2 rfl) (Fzs.refl _)) Fzs.nil))) ⟨[(n2, .cells 25 [strsA s.acts, .imm 2 (stC s.sts)]), (n3, .cells 25 [strsA t.acts, .imm 2 (stC t.sts)]), (n5, .cells 25 [strsA s.acts, .imm 2 (stC s.sts)]), (n6, .cells 25 [strsA t.acts, .imm 2 (stC t.sts)]), (nP, .row 80 2 vP (pc v.pairs)), (n7, .cells 47 [.raw (.bool v.holds), .own nL vL, .own nP vP, .own nA vA, .own nO vO]), (n9, .cells 47 [.raw (.bool v.holds), intsA v.lad, pairsA v.pairs, strsA v.wit.acts, .imm 1 (v.wit.sts.map pairsA)])] ++ HY, ?_⟩ rfl (Sub.of_eq (by first | rfl | simp -implicitDefEqProofs only [go_sem, intsA])) ?_
    · skip
      classical
      exact List.perm_iff_count.2 fun z => by simp only [List.count_append, List.count_cons, List.count_nil, List.cons_append, List.nil_append, List.append_nil] <;> omega
    simp -implicitDefEqProofs only [go_sem, hn3, not_false_eq_true, hn5, hn6, hnL, hnP, hPL, yL, yP, f2, f3, f5, f6, hget_skip, hset_skip, List.append_assoc, hn7, hn9]
    refine opK_k (Fp.borrow hsP (Fzs.cons (.refl _) (Fzs.cons (Fz.rowS (t := 80) (List.mem_singleton.2 rfl) (Fzs.refl _)) Fzs.nil))) ⟨[(n2, .cells 25 [strsA s.acts, .imm 2 (stC s.sts)]), (n3, .cells 25 [strsA t.acts, .imm 2 (stC t.sts)]), (n5, .cells 25 [strsA s.acts, .imm 2 (stC s.sts)]), (n6, .cells 25 [strsA t.acts, .imm 2 (stC t.sts)]), (nL, .row 3 1 vL (v.lad.map iA)), (n7, .cells 47 [.raw (.bool v.holds), .own nL vL, .own nP vP, .own nA vA, .own nO vO]), (n9, .cells 47 [.raw (.bool v.holds), intsA v.lad, pairsA v.pairs, strsA v.wit.acts, .imm 1 (v.wit.sts.map pairsA)])] ++ HY, ?_⟩ rfl (Sub.of_eq (by first | rfl | simp -implicitDefEqProofs only [go_sem, pairsA])) ?_
    · skip
      classical
      exact List.perm_iff_count.2 fun z => by simp only [List.count_append, List.count_cons, List.count_nil, List.cons_append, List.nil_append, List.append_nil] <;> omega
    simp -implicitDefEqProofs only [go_sem, hn3, not_false_eq_true, hn5, hn6, hnL, hnP, hPL, yL, yP, f2, f3, f5, f6, hget_skip, hset_skip, List.append_assoc, hn7, hn9]
    refine opK_k (Fp.borrow hsY (Fzs.cons (.refl _) (Fzs.cons hfY Fzs.nil))) ⟨[(n2, .cells 25 [strsA s.acts, .imm 2 (stC s.sts)]), (n3, .cells 25 [strsA t.acts, .imm 2 (stC t.sts)]), (n5, .cells 25 [strsA s.acts, .imm 2 (stC s.sts)]), (n6, .cells 25 [strsA t.acts, .imm 2 (stC t.sts)]), (nL, .row 3 1 vL (v.lad.map iA)), (nP, .row 80 2 vP (pc v.pairs)), (n7, .cells 47 [.raw (.bool v.holds), .own nL vL, .own nP vP, .own nA vA, .own nO vO]), (n9, .cells 47 [.raw (.bool v.holds), intsA v.lad, pairsA v.pairs, strsA v.wit.acts, .imm 1 (v.wit.sts.map pairsA)])], ?_⟩ rfl (Sub.of_eq (by first | rfl | simp -implicitDefEqProofs only [go_sem, Sy.av, Sy.cells])) ?_
    · skip
      classical
      exact List.perm_iff_count.2 fun z => by simp only [List.count_append, List.count_cons, List.count_nil, List.cons_append, List.nil_append, List.append_nil] <;> omega
    simp -implicitDefEqProofs only [go_sem, hn3, not_false_eq_true, hn5, hn6, hnL, hnP, hPL, yL, yP, f2, f3, f5, f6, hget_skip, hset_skip, List.append_assoc, hn7, hn9]
    refine opK_pure (SameSp_ok s s hs hs) rfl (Sub.of_eq (by first | rfl | simp -implicitDefEqProofs only [go_sem, Sp.av, Sp.cells])) ?_
    simp -implicitDefEqProofs only [go_sem, hn3, not_false_eq_true, hn5, hn6, hnL, hnP, hPL, yL, yP, f2, f3, f5, f6, hget_skip, hset_skip, List.append_assoc, hn7, hn9, hss]
    refine opK_pure (SameSp_ok t t ht ht) rfl (Sub.of_eq (by first | rfl | simp -implicitDefEqProofs only [go_sem, Sp.av, Sp.cells])) ?_
    simp -implicitDefEqProofs only [go_sem, hn3, not_false_eq_true, hn5, hn6, hnL, hnP, hPL, yL, yP, f2, f3, f5, f6, hget_skip, hset_skip, List.append_assoc, hn7, hn9, htt, hl0l, Nat.div_one]
    refine AW.loopP tok (α := Nat × List AV) (fun a => slots 146 [(2, .ptr n2 0), (3, .ptr n3 0), (5, .ptr n5 0), (6, .ptr n6 0), (7, .ptr n7 0), (25, iA k), (107, iA m), (108, iA a.1)]) (fun a => [(n2, .cells 25 [strsA s.acts, .imm 2 (stC s.sts)]), (n3, .cells 25 [strsA t.acts, .imm 2 (stC t.sts)]), (n5, .cells 25 [strsA s.acts, .imm 2 (stC s.sts)]), (n6, .cells 25 [strsA t.acts, .imm 2 (stC t.sts)]), (nL, .row 3 1 vL (a.2)), (nP, .row 80 2 vP (pc v.pairs)), (n7, .cells 47 [.raw (.bool v.holds), .own nL vL, .own nP vP, .own nA vA, .own nO vO])] ++ HY) (fun a => a.1 ≤ m ∧ a.2.length = m) (fun a => m - a.1) (0, v.lad.map iA) ⟨Nat.zero_le _, hl0l⟩ (by simp -implicitDefEqProofs only [go_sem, iA]) ⟨[(n9, .cells 47 [.raw (.bool v.holds), intsA v.lad, pairsA v.pairs, strsA v.wit.acts, .imm 1 (v.wit.sts.map pairsA)])], ?_⟩ ?_
    · skip
      classical
      exact List.perm_iff_count.2 fun z => by simp only [List.count_append, List.count_cons, List.count_nil, List.cons_append, List.nil_append, List.append_nil] <;> omega
    rintro ⟨i, lt⟩ ⟨hi, hlt⟩
    simp only at hi hlt
    simp -implicitDefEqProofs only [go_sem, iA]
    by_cases hil : i < m
    · have hi1 : i + 1 ≤ m := hil
      simp -implicitDefEqProofs only [go_sem, dlt_true hil, hn3, not_false_eq_true, hn5, hn6, hnL, hnP, hPL, yL, yP, f2, f3, f5, f6, hget_skip, hset_skip, List.append_assoc, hn7, hlt, hi1, hil, Nat.div_one, wrap_up hil (by omega)]
      exact ⟨(i + 1, List.take i lt ++ .raw (.int .i64 (-7)) :: List.drop (i + 1) lt), ⟨hil, by simp only; rw [setC1_len (by omega)]; exact hlt⟩, by simp only; omega, by simp -implicitDefEqProofs only [go_sem, iA], Has.refl _⟩
    simp -implicitDefEqProofs only [go_sem, dlt_false hil, hn3, not_false_eq_true, hn5, hn6, hnL, hnP, hPL, yL, yP, f2, f3, f5, f6, hget_skip, hset_skip, List.append_assoc, hn7, pc_div]
    refine AW.loopP tok (α := Nat × List AV) (fun a => slots 146 [(2, .ptr n2 0), (3, .ptr n3 0), (5, .ptr n5 0), (6, .ptr n6 0), (7, .ptr n7 0), (25, iA k), (120, iA v.pairs.length), (121, iA a.1)]) (fun a => [(n2, .cells 25 [strsA s.acts, .imm 2 (stC s.sts)]), (n3, .cells 25 [strsA t.acts, .imm 2 (stC t.sts)]), (n5, .cells 25 [strsA s.acts, .imm 2 (stC s.sts)]), (n6, .cells 25 [strsA t.acts, .imm 2 (stC t.sts)]), (nL, .row 3 1 vL (lt)), (nP, .row 80 2 vP (a.2)), (n7, .cells 47 [.raw (.bool v.holds), .own nL vL, .own nP vP, .own nA vA, .own nO vO])] ++ HY) (fun a => a.1 ≤ v.pairs.length ∧ a.2.length = v.pairs.length * 2) (fun a => v.pairs.length - a.1) (0, pc v.pairs) ⟨Nat.zero_le _, pc_length _⟩ (by simp -implicitDefEqProofs only [go_sem, iA]) (Has.refl _) ?_
    rintro ⟨j, pt⟩ ⟨hj, hpt⟩
    simp only at hj hpt
    simp -implicitDefEqProofs only [go_sem, iA]
    by_cases hjl : j < v.pairs.length
    · have hj1 : j * 2 + 2 ≤ v.pairs.length * 2 := by omega
      have hj2 : j * 2 < v.pairs.length * 2 := by omega
      simp -implicitDefEqProofs only [go_sem, dlt_true hjl, hn3, not_false_eq_true, hn5, hn6, hnL, hnP, hPL, yL, yP, f2, f3, f5, f6, hget_skip, hset_skip, List.append_assoc, hn7, hpt, hj1, hj2, hd2, hjl, wrap_up hjl (by omega)]
      exact ⟨(j + 1, List.take (j * 2) pt ++ .raw (.int .i64 (-7)) :: .raw (.int .i64 (-7)) :: List.drop (j * 2 + 2) pt), ⟨hjl, by simp only; rw [setC2_len (by omega)]; exact hpt⟩, by simp only; omega, by simp -implicitDefEqProofs only [go_sem, iA], Has.refl _⟩
    simp -implicitDefEqProofs only [go_sem, dlt_false hjl, hn3, not_false_eq_true, hn5, hn6, hnL, hnP, hPL, yL, yP, f2, f3, f5, f6, hget_skip, hset_skip, List.append_assoc, hn7]
    refine opK_call HY [(n2, .cells 25 [strsA s.acts, .imm 2 (stC s.sts)]), (n3, .cells 25 [strsA t.acts, .imm 2 (stC t.sts)]), (n5, .cells 25 [strsA s.acts, .imm 2 (stC s.sts)]), (n6, .cells 25 [strsA t.acts, .imm 2 (stC t.sts)]), (nL, .row 3 1 vL (lt)), (nP, .row 80 2 vP (pt)), (n7, .cells 47 [.raw (.bool v.holds), .own nL vL, .own nP vP, .own nA vA, .own nO vO])] rfl hwr rfl (Sub.of_eq (by simp -implicitDefEqProofs only [go_sem])) ?_ ?_
    · skip
      classical
      exact List.perm_iff_count.2 fun z => by simp only [List.count_append, List.count_cons, List.count_nil, List.cons_append, List.nil_append, List.append_nil] <;> omega
    rintro x6 H6 rfl hnd
    clear hnd
    simp -implicitDefEqProofs only [go_sem, hn3, not_false_eq_true, hn5, hn6, hnL, hnP, hPL, yL, yP, f2, f3, f5, f6, hget_skip, hset_skip, List.append_assoc, hn7, List.append_nil]
    refine opK_pure (SameSp_ok s s hs hs) rfl (Sub.of_eq (by first | rfl | simp -implicitDefEqProofs only [go_sem, Sp.av, Sp.cells])) ?_
    simp -implicitDefEqProofs only [go_sem, hn3, not_false_eq_true, hn5, hn6, hnL, hnP, hPL, yL, yP, f2, f3, f5, f6, hget_skip, hset_skip, List.append_assoc, hn7, hss]
    refine opK_pure (SameSp_ok t t ht ht) rfl (Sub.of_eq (by first | rfl | simp -implicitDefEqProofs only [go_sem, Sp.av, Sp.cells])) ?_
    simp -implicitDefEqProofs only [go_sem, hn3, not_false_eq_true, hn5, hn6, hnL, hnP, hPL, yL, yP, f2, f3, f5, f6, hget_skip, hset_skip, List.append_assoc, hn7, htt, wrap_up hk2 (by decide)]
    exact ⟨k + 1, hk2, by omega, by simp -implicitDefEqProofs only [go_sem, iA], ⟨[(nL, .row 3 1 vL (lt)), (nP, .row 80 2 vP (pt)), (n7, .cells 47 [.raw (.bool v.holds), .own nL vL, .own nP vP, .own nA vA, .own nO vO])], List.Perm.refl _⟩⟩
  · simp -implicitDefEqProofs only [go_sem, c0, decide_false, hn3, not_false_eq_true, hn5, hn6, hnL, hnP, hPL, yL, yP, f2, f3, f5, f6, hget_skip, hset_skip, List.append_assoc, hn7]
    refine AW.draw tok hmix ⟨[], [], [], false⟩ (by kernel_rfl) (Has.of_sub (List.nil_sublist _)) ?_
    simp -implicitDefEqProofs only [go_sem, hn3, not_false_eq_true, hn5, hn6, hnL, hnP, hPL, yL, yP, f2, f3, f5, f6, hget_skip, hset_skip, List.append_assoc, hn7]
    refine opK_k (twinO_ok ⟨v.lad, v.pairs⟩ ⟨hv.l, hv.p⟩ (nL := nL) (vL := vL) (nP := nP) (vP := vP)) ⟨[(n2, .cells 25 [strsA s.acts, .imm 2 (stC s.sts)]), (n3, .cells 25 [strsA t.acts, .imm 2 (stC t.sts)]), (n5, .cells 25 [strsA s.acts, .imm 2 (stC s.sts)]), (n6, .cells 25 [strsA t.acts, .imm 2 (stC t.sts)]), (n7, .cells 47 [.raw (.bool v.holds), .own nL vL, .own nP vP, .own nA vA, .own nO vO])] ++ HY, ?_⟩ rfl (Sub.of_eq (by simp -implicitDefEqProofs only [go_sem])) ?_
    · skip
      classical
      exact List.perm_iff_count.2 fun z => by simp only [List.count_append, List.count_cons, List.count_nil, List.cons_append, List.nil_append, List.append_nil] <;> omega
    simp -implicitDefEqProofs only [go_sem, hn3, not_false_eq_true, hn5, hn6, hnL, hnP, hPL, yL, yP, f2, f3, f5, f6, hget_skip, hset_skip, List.append_assoc, hn7, Pf.av]
    refine opK_k hcp ⟨[(n2, .cells 25 [strsA s.acts, .imm 2 (stC s.sts)]), (n3, .cells 25 [strsA t.acts, .imm 2 (stC t.sts)]), (n5, .cells 25 [strsA s.acts, .imm 2 (stC s.sts)]), (n6, .cells 25 [strsA t.acts, .imm 2 (stC t.sts)]), (nL, .row 3 1 vL (v.lad.map iA)), (nP, .row 80 2 vP (pc v.pairs)), (n7, .cells 47 [.raw (.bool v.holds), .own nL vL, .own nP vP, .own nA vA, .own nO vO])], ?_⟩ rfl (Sub.of_eq (by simp -implicitDefEqProofs only [go_sem])) ?_
    · skip
      classical
      exact List.perm_iff_count.2 fun z => by simp only [List.count_append, List.count_cons, List.count_nil, List.cons_append, List.nil_append, List.append_nil] <;> omega
    simp -implicitDefEqProofs only [go_sem, hn3, not_false_eq_true, hn5, hn6, hnL, hnP, hPL, yL, yP, f2, f3, f5, f6, hget_skip, hset_skip, List.append_assoc, hn7, Sy.av, Sy.cells]
    refine newK_intro fun n9 hn9 => ?_
    try simp -implicitDefEqProofs only [hset, frt] at hn9
    simp -implicitDefEqProofs only [go_sem, hn3, not_false_eq_true, hn5, hn6, hnL, hnP, hPL, yL, yP, f2, f3, f5, f6, hget_skip, hset_skip, List.append_assoc, hn7, hn9]
    refine opK_k (Fp.lend (IsProofS_ok s t hs ht hf hg ⟨v.lad, v.pairs⟩ ⟨hv.l, hv.p⟩) (Fzs.cons (.refl _) (Fzs.cons (.refl _) (Fzs.cons hfP Fzs.nil))) (noK2 _ _)) ⟨[(n2, .cells 25 [strsA s.acts, .imm 2 (stC s.sts)]), (n3, .cells 25 [strsA t.acts, .imm 2 (stC t.sts)]), (n5, .cells 25 [strsA s.acts, .imm 2 (stC s.sts)]), (n6, .cells 25 [strsA t.acts, .imm 2 (stC t.sts)]), (n7, .cells 47 [.raw (.bool v.holds), .own nL vL, .own nP vP, .own nA vA, .own nO vO]), (n9, .cells 47 [.raw (.bool v.holds), intsA v.lad, pairsA v.pairs, strsA v.wit.acts, .imm 1 (v.wit.sts.map pairsA)])] ++ HY, ?_⟩ rfl (Sub.of_eq (by first | rfl | simp -implicitDefEqProofs only [go_sem, Sp.av, Sp.cells])) ?_
    · skip
      classical
      exact List.perm_iff_count.2 fun z => by simp only [List.count_append, List.count_cons, List.count_nil, List.cons_append, List.nil_append, List.append_nil] <;> omega
    simp -implicitDefEqProofs only [go_sem, hn3, not_false_eq_true, hn5, hn6, hnL, hnP, hPL, yL, yP, f2, f3, f5, f6, hget_skip, hset_skip, List.append_assoc, hn7, hn9]
    refine opK_k (Fp.lend (RightS_ok s t hs ht hf hg v hv) (Fzs.cons (.refl _) (Fzs.cons (.refl _) (Fzs.cons (hov1.fz fun _ hp => hp) Fzs.nil))) (noK2 _ _)) ⟨[(n2, .cells 25 [strsA s.acts, .imm 2 (stC s.sts)]), (n3, .cells 25 [strsA t.acts, .imm 2 (stC t.sts)]), (n5, .cells 25 [strsA s.acts, .imm 2 (stC s.sts)]), (n6, .cells 25 [strsA t.acts, .imm 2 (stC t.sts)]), (n7, .cells 47 [.raw (.bool v.holds), .own nL vL, .own nP vP, .own nA vA, .own nO vO]), (n9, .cells 47 [.raw (.bool v.holds), intsA v.lad, pairsA v.pairs, strsA v.wit.acts, .imm 1 (v.wit.sts.map pairsA)])], ?_⟩ rfl (Sub.of_eq (by first | rfl | simp -implicitDefEqProofs only [go_sem, Sp.av, Sp.cells])) ?_
    · skip
      classical
      exact List.perm_iff_count.2 fun z => by simp only [List.count_append, List.count_cons, List.count_nil, List.cons_append, List.nil_append, List.append_nil] <;> omega
    simp -implicitDefEqProofs only [go_sem, hn3, not_false_eq_true, hn5, hn6, hnL, hnP, hPL, yL, yP, f2, f3, f5, f6, hget_skip, hset_skip, List.append_assoc, hn7, hn9]
    refine opK_pure (EqualS_ok s t hs ht hf hg) rfl (Sub.of_eq (by first | rfl | simp -implicitDefEqProofs only [go_sem, Sp.av, Sp.cells])) ?_
    simp -implicitDefEqProofs only [go_sem, hn3, not_false_eq_true, hn5, hn6, hnL, hnP, hPL, yL, yP, f2, f3, f5, f6, hget_skip, hset_skip, List.append_assoc, hn7, hn9]
    refine opK_pure (DepthS_ok s t hs ht hf hg) rfl (Sub.of_eq (by first | rfl | simp -implicitDefEqProofs only [go_sem, Sp.av, Sp.cells])) ?_
    simp -implicitDefEqProofs only [go_sem, hn3, not_false_eq_true, hn5, hn6, hnL, hnP, hPL, yL, yP, f2, f3, f5, f6, hget_skip, hset_skip, List.append_assoc, hn7, hn9]
    refine opK_k (Fp.borrow hsI (Fzs.cons (.refl _) (Fzs.cons (Fz.rowS (t := 3) (List.mem_singleton.2 rfl) (Fzs.refl _)) Fzs.nil))) ⟨[(n2, .cells 25 [strsA s.acts, .imm 2 (stC s.sts)]), (n3, .cells 25 [strsA t.acts, .imm 2 (stC t.sts)]), (n5, .cells 25 [strsA s.acts, .imm 2 (stC s.sts)]), (n6, .cells 25 [strsA t.acts, .imm 2 (stC t.sts)]), (nP, .row 80 2 vP (pc v.pairs)), (n7, .cells 47 [.raw (.bool v.holds), .own nL vL, .own nP vP, .own nA vA, .own nO vO]), (n9, .cells 47 [.raw (.bool v.holds), intsA v.lad, pairsA v.pairs, strsA v.wit.acts, .imm 1 (v.wit.sts.map pairsA)])] ++ HY, ?_⟩ rfl (Sub.of_eq (by first | rfl | simp -implicitDefEqProofs only [go_sem, intsA])) ?_
    · skip
      classical
      exact List.perm_iff_count.2 fun z => by simp only [List.count_append, List.count_cons, List.count_nil, List.cons_append, List.nil_append, List.append_nil] <;> omega
    simp -implicitDefEqProofs only [go_sem, hn3, not_false_eq_true, hn5, hn6, hnL, hnP, hPL, yL, yP, f2, f3, f5, f6, hget_skip, hset_skip, List.append_assoc, hn7, hn9]
    refine opK_k (Fp.borrow hsP (Fzs.cons (.refl _) (Fzs.cons (Fz.rowS (t := 80) (List.mem_singleton.2 rfl) (Fzs.refl _)) Fzs.nil))) ⟨[(n2, .cells 25 [strsA s.acts, .imm 2 (stC s.sts)]), (n3, .cells 25 [strsA t.acts, .imm 2 (stC t.sts)]), (n5, .cells 25 [strsA s.acts, .imm 2 (stC s.sts)]), (n6, .cells 25 [strsA t.acts, .imm 2 (stC t.sts)]), (nL, .row 3 1 vL (v.lad.map iA)), (n7, .cells 47 [.raw (.bool v.holds), .own nL vL, .own nP vP, .own nA vA, .own nO vO]), (n9, .cells 47 [.raw (.bool v.holds), intsA v.lad, pairsA v.pairs, strsA v.wit.acts, .imm 1 (v.wit.sts.map pairsA)])] ++ HY, ?_⟩ rfl (Sub.of_eq (by first | rfl | simp -implicitDefEqProofs only [go_sem, pairsA])) ?_
    · skip
      classical
      exact List.perm_iff_count.2 fun z => by simp only [List.count_append, List.count_cons, List.count_nil, List.cons_append, List.nil_append, List.append_nil] <;> omega
    simp -implicitDefEqProofs only [go_sem, hn3, not_false_eq_true, hn5, hn6, hnL, hnP, hPL, yL, yP, f2, f3, f5, f6, hget_skip, hset_skip, List.append_assoc, hn7, hn9]
    refine opK_k (Fp.borrow hsY (Fzs.cons (.refl _) (Fzs.cons hfY Fzs.nil))) ⟨[(n2, .cells 25 [strsA s.acts, .imm 2 (stC s.sts)]), (n3, .cells 25 [strsA t.acts, .imm 2 (stC t.sts)]), (n5, .cells 25 [strsA s.acts, .imm 2 (stC s.sts)]), (n6, .cells 25 [strsA t.acts, .imm 2 (stC t.sts)]), (nL, .row 3 1 vL (v.lad.map iA)), (nP, .row 80 2 vP (pc v.pairs)), (n7, .cells 47 [.raw (.bool v.holds), .own nL vL, .own nP vP, .own nA vA, .own nO vO]), (n9, .cells 47 [.raw (.bool v.holds), intsA v.lad, pairsA v.pairs, strsA v.wit.acts, .imm 1 (v.wit.sts.map pairsA)])], ?_⟩ rfl (Sub.of_eq (by first | rfl | simp -implicitDefEqProofs only [go_sem, Sy.av, Sy.cells])) ?_
    · skip
      classical
      exact List.perm_iff_count.2 fun z => by simp only [List.count_append, List.count_cons, List.count_nil, List.cons_append, List.nil_append, List.append_nil] <;> omega
    simp -implicitDefEqProofs only [go_sem, hn3, not_false_eq_true, hn5, hn6, hnL, hnP, hPL, yL, yP, f2, f3, f5, f6, hget_skip, hset_skip, List.append_assoc, hn7, hn9]
    refine opK_pure (SameSp_ok s s hs hs) rfl (Sub.of_eq (by first | rfl | simp -implicitDefEqProofs only [go_sem, Sp.av, Sp.cells])) ?_
    simp -implicitDefEqProofs only [go_sem, hn3, not_false_eq_true, hn5, hn6, hnL, hnP, hPL, yL, yP, f2, f3, f5, f6, hget_skip, hset_skip, List.append_assoc, hn7, hn9, hss]
    refine opK_pure (SameSp_ok t t ht ht) rfl (Sub.of_eq (by first | rfl | simp -implicitDefEqProofs only [go_sem, Sp.av, Sp.cells])) ?_
    simp -implicitDefEqProofs only [go_sem, hn3, not_false_eq_true, hn5, hn6, hnL, hnP, hPL, yL, yP, f2, f3, f5, f6, hget_skip, hset_skip, List.append_assoc, hn7, hn9, htt, hl0l, Nat.div_one]
    refine AW.loopP tok (α := Nat × List AV) (fun a => slots 146 [(2, .ptr n2 0), (3, .ptr n3 0), (5, .ptr n5 0), (6, .ptr n6 0), (7, .ptr n7 0), (25, iA k), (107, iA m), (108, iA a.1)]) (fun a => [(n2, .cells 25 [strsA s.acts, .imm 2 (stC s.sts)]), (n3, .cells 25 [strsA t.acts, .imm 2 (stC t.sts)]), (n5, .cells 25 [strsA s.acts, .imm 2 (stC s.sts)]), (n6, .cells 25 [strsA t.acts, .imm 2 (stC t.sts)]), (nL, .row 3 1 vL (a.2)), (nP, .row 80 2 vP (pc v.pairs)), (n7, .cells 47 [.raw (.bool v.holds), .own nL vL, .own nP vP, .own nA vA, .own nO vO])] ++ HY) (fun a => a.1 ≤ m ∧ a.2.length = m) (fun a => m - a.1) (0, v.lad.map iA) ⟨Nat.zero_le _, hl0l⟩ (by simp -implicitDefEqProofs only [go_sem, iA]) ⟨[(n9, .cells 47 [.raw (.bool v.holds), intsA v.lad, pairsA v.pairs, strsA v.wit.acts, .imm 1 (v.wit.sts.map pairsA)])], ?_⟩ ?_
    · skip
      classical
      exact List.perm_iff_count.2 fun z => by simp only [List.count_append, List.count_cons, List.count_nil, List.cons_append, List.nil_append, List.append_nil] <;> omega
    rintro ⟨i, lt⟩ ⟨hi, hlt⟩
    simp only at hi hlt
    simp -implicitDefEqProofs only [go_sem, iA]
    by_cases hil : i < m
    · have hi1 : i + 1 ≤ m := hil
      simp -implicitDefEqProofs only [go_sem, dlt_true hil, hn3, not_false_eq_true, hn5, hn6, hnL, hnP, hPL, yL, yP, f2, f3, f5, f6, hget_skip, hset_skip, List.append_assoc, hn7, hlt, hi1, hil, Nat.div_one, wrap_up hil (by omega)]
      exact ⟨(i + 1, List.take i lt ++ .raw (.int .i64 (-7)) :: List.drop (i + 1) lt), ⟨hil, by simp only; rw [setC1_len (by omega)]; exact hlt⟩, by simp only; omega, by simp -implicitDefEqProofs only [go_sem, iA], Has.refl _⟩
    simp -implicitDefEqProofs only [go_sem, dlt_false hil, hn3, not_false_eq_true, hn5, hn6, hnL, hnP, hPL, yL, yP, f2, f3, f5, f6, hget_skip, hset_skip, List.append_assoc, hn7, pc_div]
    refine AW.loopP tok (α := Nat × List AV) (fun a => slots 146 [(2, .ptr n2 0), (3, .ptr n3 0), (5, .ptr n5 0), (6, .ptr n6 0), (7, .ptr n7 0), (25, iA k), (120, iA v.pairs.length), (121, iA a.1)]) (fun a => [(n2, .cells 25 [strsA s.acts, .imm 2 (stC s.sts)]), (n3, .cells 25 [strsA t.acts, .imm 2 (stC t.sts)]), (n5, .cells 25 [strsA s.acts, .imm 2 (stC s.sts)]), (n6, .cells 25 [strsA t.acts, .imm 2 (stC t.sts)]), (nL, .row 3 1 vL (lt)), (nP, .row 80 2 vP (a.2)), (n7, .cells 47 [.raw (.bool v.holds), .own nL vL, .own nP vP, .own nA vA, .own nO vO])] ++ HY) (fun a => a.1 ≤ v.pairs.length ∧ a.2.length = v.pairs.length * 2) (fun a => v.pairs.length - a.1) (0, pc v.pairs) ⟨Nat.zero_le _, pc_length _⟩ (by simp -implicitDefEqProofs only [go_sem, iA]) (Has.refl _) ?_
    rintro ⟨j, pt⟩ ⟨hj, hpt⟩
    simp only at hj hpt
    simp -implicitDefEqProofs only [go_sem, iA]
    by_cases hjl : j < v.pairs.length
    · have hj1 : j * 2 + 2 ≤ v.pairs.length * 2 := by omega
      have hj2 : j * 2 < v.pairs.length * 2 := by omega
      simp -implicitDefEqProofs only [go_sem, dlt_true hjl, hn3, not_false_eq_true, hn5, hn6, hnL, hnP, hPL, yL, yP, f2, f3, f5, f6, hget_skip, hset_skip, List.append_assoc, hn7, hpt, hj1, hj2, hd2, hjl, wrap_up hjl (by omega)]
      exact ⟨(j + 1, List.take (j * 2) pt ++ .raw (.int .i64 (-7)) :: .raw (.int .i64 (-7)) :: List.drop (j * 2 + 2) pt), ⟨hjl, by simp only; rw [setC2_len (by omega)]; exact hpt⟩, by simp only; omega, by simp -implicitDefEqProofs only [go_sem, iA], Has.refl _⟩
    simp -implicitDefEqProofs only [go_sem, dlt_false hjl, hn3, not_false_eq_true, hn5, hn6, hnL, hnP, hPL, yL, yP, f2, f3, f5, f6, hget_skip, hset_skip, List.append_assoc, hn7]
    refine opK_call HY [(n2, .cells 25 [strsA s.acts, .imm 2 (stC s.sts)]), (n3, .cells 25 [strsA t.acts, .imm 2 (stC t.sts)]), (n5, .cells 25 [strsA s.acts, .imm 2 (stC s.sts)]), (n6, .cells 25 [strsA t.acts, .imm 2 (stC t.sts)]), (nL, .row 3 1 vL (lt)), (nP, .row 80 2 vP (pt)), (n7, .cells 47 [.raw (.bool v.holds), .own nL vL, .own nP vP, .own nA vA, .own nO vO])] rfl hwr rfl (Sub.of_eq (by simp -implicitDefEqProofs only [go_sem])) ?_ ?_
    · skip
      classical
      exact List.perm_iff_count.2 fun z => by simp only [List.count_append, List.count_cons, List.count_nil, List.cons_append, List.nil_append, List.append_nil] <;> omega
    rintro x6 H6 rfl hnd
    clear hnd
    simp -implicitDefEqProofs only [go_sem, hn3, not_false_eq_true, hn5, hn6, hnL, hnP, hPL, yL, yP, f2, f3, f5, f6, hget_skip, hset_skip, List.append_assoc, hn7, List.append_nil]
    refine opK_pure (SameSp_ok s s hs hs) rfl (Sub.of_eq (by first | rfl | simp -implicitDefEqProofs only [go_sem, Sp.av, Sp.cells])) ?_
    simp -implicitDefEqProofs only [go_sem, hn3, not_false_eq_true, hn5, hn6, hnL, hnP, hPL, yL, yP, f2, f3, f5, f6, hget_skip, hset_skip, List.append_assoc, hn7, hss]
    refine opK_pure (SameSp_ok t t ht ht) rfl (Sub.of_eq (by first | rfl | simp -implicitDefEqProofs only [go_sem, Sp.av, Sp.cells])) ?_
    simp -implicitDefEqProofs only [go_sem, hn3, not_false_eq_true, hn5, hn6, hnL, hnP, hPL, yL, yP, f2, f3, f5, f6, hget_skip, hset_skip, List.append_assoc, hn7, htt, wrap_up hk2 (by decide)]
    exact ⟨k + 1, hk2, by omega, by simp -implicitDefEqProofs only [go_sem, iA], ⟨[(nL, .row 3 1 vL (lt)), (nP, .row 80 2 vP (pt)), (n7, .cells 47 [.raw (.bool v.holds), .own nL vL, .own nP vP, .own nA vA, .own nO vO])], List.Perm.refl _⟩⟩
theorem RefineOwn_fc (xs : List AV) (h : ShAs TT0 [25, 25] xs) : Fc Tryz.prog 7 xs [] fun x _ => x = abool true := by
  cases h with
  | cons h1 h =>
  cases h with
  | cons h2 h =>
  cases h
  obtain ⟨s, hs, hf, rfl⟩ := shA_sp h1
  obtain ⟨t, ht, hg, rfl⟩ := shA_sp h2
  exact RefineOwn_ok s t hs ht hf hg
end Go.Proofs.YtfininfcljdkbaaGreat
