/- Refinement, part Xb: what Judge hands back, in memory of its own. -/
import Derived.Test.YtfininfcljdkbaaGreatR26
set_option linter.unusedSimpArgs false
set_option linter.unusedVariables false
namespace Go.Proofs.YtfininfcljdkbaaGreat
open Go Go.NS
def JudO (s t : Sp) (k : Nat) (x : AV) (H : AHeap) : Prop :=
  (refB s t k = true ∧ ∃ out nO vO, Ladder s out ∧ Whole s out ∧
    ((leftN s k = [] ∧ x = .agg [abool true, .own nO vO, .raw (.slice none 0 0), .raw (.slice none 0 0), .raw (.slice none 0 0)] ∧ H = [(nO, .row 3 1 vO ((natsI out).map iA))]) ∨
     (leftN s k ≠ [] ∧ ∃ nP vP, x = .agg [abool true, .own nO vO, .own nP vP, .raw (.slice none 0 0), .raw (.slice none 0 0)] ∧ H = [(nO, .row 3 1 vO ((natsI out).map iA)), (nP, .row 80 2 vP (pc (pairsD s t k)))]))) ∨
  (refB s t k = false ∧ leftN s k ≠ [] ∧ ∃ (v : Nat) (w : List Nat) (q : Pr), Path (suD (trimS s k) t k) (0, 0) w q ∧ v ∈ (trimS s k).acc q.1 ∧ v ∉ t.acc q.2 ∧
    ∃ nA vA nO vO es ws, x = .agg [abool false, .raw (.slice none 0 0), .raw (.slice none 0 0), .own nA vA, .own nO vO] ∧
      H = [(nA, .row 9 1 vA ((witS (trimS s k) k (wayP (trimS s k) v 0 w)).acts.map sA)), (nO, .row 98 1 vO (ownsC (witS (trimS s k) k (wayP (trimS s k) v 0 w)).sts.length es ws))] ++ rowsH (witS (trimS s k) k (wayP (trimS s k) v 0 w)).sts.length 101 2 es ws (fun j => pc ((witS (trimS s k) k (wayP (trimS s k) v 0 w)).row j)))
set_option maxRecDepth 4000 in
set_option maxHeartbeats 4000000 in
theorem JudgeO_own (s t : Sp) {k : Nat} (hs : s.validB = true) (hm : s.Val k) (hn : t.Val k) : Fc Tryz.prog 50 [s.av, t.av] [] (JudO s t k) := by
  refine Fc.dropR ?_
  have hT := trimS_tight hm
  have hV := trimS_valid hm
  have htr := Trimmed_ok s hm
  have hta := trim_acts s k
  obtain ⟨T, hTe⟩ : ∃ T, T = trimS s k := ⟨_, rfl⟩
  rw [← hTe] at hT hV htr hta
  have hok : refB s t k = okR T t k := by rw [hTe]; rfl
  refine Fc.of_vc tok Tryz.func50 rfl (by decide) ?_
  simp -implicitDefEqProofs only [go_sem, Tryz.ntmps50, Sp.av, Sp.cells]
  refine newK_intro fun n2 hn2 => ?_
  try simp -implicitDefEqProofs only [hset, frt] at hn2
  simp -implicitDefEqProofs only [go_sem]
  refine newK_intro fun n3 hn3 => ?_
  try simp -implicitDefEqProofs only [hset, frt] at hn3
  simp -implicitDefEqProofs only [go_sem, hn3]
  refine newK_intro fun n4 hn4 => ?_
  try simp -implicitDefEqProofs only [hset, frt] at hn4
  simp -implicitDefEqProofs only [go_sem, hn3, hn4, not_false_eq_true]
  refine opK_pure (htr) rfl (Sub.of_eq (by first | rfl | simp -implicitDefEqProofs only [go_sem])) ?_
  simp -implicitDefEqProofs only [go_sem, hn3, hn4, not_false_eq_true, Sp.av, Sp.cells]
  refine newK_intro fun n5 hn5 => ?_
  try simp -implicitDefEqProofs only [hset, frt] at hn5
  simp -implicitDefEqProofs only [go_sem, hn3, hn4, not_false_eq_true, hn5]
  refine opK_call [] [(n2, .cells 25 [strsA s.acts, .imm 2 (stC s.sts)]), (n3, .cells 25 [strsA t.acts, .imm 2 (stC t.sts)]), (n4, .cells 47 [.raw (.bool false), .raw (.slice none 0 0), .raw (.slice none 0 0), .raw (.slice none 0 0), .raw (.slice none 0 0)]), (n5, .cells 25 [strsA T.acts, .imm 2 (stC T.sts)])] rfl (Ladder_own s hs) rfl (Sub.of_eq (by first | rfl | simp -implicitDefEqProofs only [go_sem, Sp.av, Sp.cells])) (List.Perm.of_eq (List.append_nil _)) ?_
  rintro x H1 ⟨out, nO, vO, hL, hW, rfl, rfl⟩ hnO
  have hnO' : ¬nO = n2 ∧ ¬nO = n3 ∧ ¬nO = n4 ∧ ¬nO = n5 := by
    simp only [List.map_append, List.map_cons, List.map_nil, List.cons_append, List.nil_append, List.nodup_cons, List.mem_cons, List.not_mem_nil, or_false, not_or] at hnO
    omega
  clear hnO
  simp -implicitDefEqProofs only [go_sem, hn3, hn4, not_false_eq_true, hn5, hnO', intsA, List.length_map, natsI_length, Nat.div_one]
  by_cases h0 : leftN s k = []
  · have er : refB s t k = true := refB_nil hm hn h0
    have e0 : decide (((leftN s k).length : Int) = 0) = true := by rw [h0]; rfl
    simp -implicitDefEqProofs only [go_sem, e0, hn3, hn4, not_false_eq_true, hn5, hnO']
    refine fnPost_ret tok ?_
    simp -implicitDefEqProofs only [go_sem, Tryz.results50, hn3, hn4, not_false_eq_true, hn5, hnO']
    exact ⟨[(nO, .row 3 1 vO ((natsI out).map iA))], Has.of_sub (List.Sublist.cons _ (List.Sublist.cons _ (List.Sublist.cons _ (List.Sublist.cons _ (List.Sublist.refl _))))), .inl ⟨er, out, nO, vO, hL, hW, .inl ⟨h0, rfl, rfl⟩⟩⟩
  have e0 : decide (((leftN s k).length : Int) = 0) = false := decide_eq_false (by have := List.length_pos_iff.2 h0; omega)
  simp -implicitDefEqProofs only [go_sem, e0, hn3, hn4, not_false_eq_true, hn5, hnO']
  refine opK_call [] [(n2, .cells 25 [strsA s.acts, .imm 2 (stC s.sts)]), (n3, .cells 25 [strsA t.acts, .imm 2 (stC t.sts)]), (n4, .cells 47 [.raw (.bool false), .raw (.slice none 0 0), .raw (.slice none 0 0), .raw (.slice none 0 0), .raw (.slice none 0 0)]), (n5, .cells 25 [strsA T.acts, .imm 2 (stC T.sts)]), (nO, .row 3 1 vO ((natsI out).map iA))] rfl (walk_fc T t hV hn hT) rfl (Sub.of_eq (by first | rfl | simp -implicitDefEqProofs only [go_sem, Sp.av, Sp.cells])) (List.Perm.of_eq (List.append_nil _)) ?_
  rintro x H1 ⟨rfl, ⟨hO, rfl⟩ | ⟨hO, q, v, hpre, hlt, hv1, hv2, rfl⟩⟩ hnd
  · have d : decide ((-1 : Int) ≥ 0) = false := by decide
    obtain ⟨L, hLe⟩ : ∃ L, L = relD T t k := ⟨_, rfl⟩
    have hLl := relD_len hV hn
    rw [← hLe] at hLl ⊢
    have hin : ∀ y ∈ L, InD T t y.1 := hLe ▸ gL_in (inD0 hV hn) (suD_in hV hn)
    have hTl : T.sts.length = (leftN s k).length := by rw [hTe, trimS_len h0]
    have hps : pairsD s t k = L.map (fromD s k) := by rw [hLe, hTe]; rfl
    simp -implicitDefEqProofs only [go_sem, iA, d, hn3, hn4, not_false_eq_true, hn5, hnO']
    refine newK_intro fun n14 hn14 => ?_
    try simp -implicitDefEqProofs only [hset, frt] at hn14
    simp -implicitDefEqProofs only [go_sem, hn3, hn4, not_false_eq_true, hn5, hnO', hn14]
    refine AW.adoptIn n14 2 80 (sz := 2) (by decide) (by simp -implicitDefEqProofs only [go_sem, hn3, hn4, not_false_eq_true, hn5, hnO', hn14]; rfl) rfl fun nP hnP => ?_
    try simp -implicitDefEqProofs only [hset, frt] at hnP
    simp -implicitDefEqProofs only [go_sem, hn3, hn4, not_false_eq_true, hn5, hnO', hn14, hnP, mc_div]
    refine AW.loopG tok (α := Nat × Nat) (fun a => slots 83 [(4, .ptr n4 0), (6, .imm 1 ((natsI (leftN s k)).map iA)), (14, .ptr n14 0), (58, .imm 4 (mc L)), (59, iA L.length), (60, iA a.1)])
      (fun a => [(n4, .cells 47 [.raw (.bool false), .raw (.slice none 0 0), .raw (.slice none 0 0), .raw (.slice none 0 0), .raw (.slice none 0 0)]), (nO, .row 3 1 vO ((natsI out).map iA)), (n14, .cells 47 [abool true, .own nO vO, .own nP a.2, .raw (.slice none 0 0), .raw (.slice none 0 0)]), (nP, .row 80 2 a.2 (pc ((L.take a.1).map (fromD s k))))]) (fun a => a.1 ≤ L.length) (fun a => L.length - a.1) (0, 0) (Nat.zero_le _) (by simp -implicitDefEqProofs only [go_sem, iA]) ?_ ?_
    · simp only [List.cons_append, List.nil_append, List.take_zero, List.map_nil, pc_nil]
      repeat (first | exact List.Sublist.refl _ | apply List.Sublist.cons_cons | apply List.Sublist.cons)
    rintro ⟨j, vP⟩ hj
    simp only at hj
    simp -implicitDefEqProofs only [go_sem, iA]
    by_cases hjl : j < L.length
    · have g0 := mc_all hjl
      obtain ⟨g1, g2, _⟩ := mc_in hjl
      have hx := (hin _ (List.getElem_mem hjl)).1
      rw [hTl] at hx
      have gx := natsI_at hx
      simp -implicitDefEqProofs only [go_sem, dlt_true hjl, hn3, hn4, not_false_eq_true, hn5, hnO', hn14, hnP, mc_div, g0, g1, g2, hjl]
      refine newK_intro fun n16 hn16 => ?_
      try simp -implicitDefEqProofs only [hset, frt] at hn16
      simp -implicitDefEqProofs only [go_sem, hn3, hn4, not_false_eq_true, hn5, hnO', hn14, hnP, hn16]
      refine AW.draw tok hmix ⟨[78], [], [], false⟩ (by kernel_rfl) (Has.of_sub (List.nil_sublist _)) ?_
      simp only [iA, aint] at gx
      simp -implicitDefEqProofs only [go_sem, hn3, hn4, not_false_eq_true, hn5, hnO', hn14, hnP, hn16, iA, List.length_map, natsI_length, Nat.div_one, hx, gx]
      refine opK_lit tok T40 rfl T80 (by decide) (by simp -implicitDefEqProofs only [go_sem, zrep, List.flatten_cons, List.flatten_nil]; rfl) ?_
      simp -implicitDefEqProofs only [go_sem, hn3, hn4, not_false_eq_true, hn5, hnO', hn14, hnP, hn16]
      refine opK_append tok rfl rfl (by simp -implicitDefEqProofs only [go_sem, hn3, hn4, not_false_eq_true, hn5, hnO', hn14, hnP, hn16]; rfl) rfl T40 rfl T80 rfl (by decide) (by simp only [pc_div, List.length_map, List.length_take, List.length_cons, List.length_nil]; omega) fun v3 => ?_
      have g3 : pc ((L.take j).map (fromD s k)) ++ [.raw (.int .i64 ((leftN s k)[L[j].1.1] : Nat)), .raw (.int .i64 (L[j].1.2 : Nat))] = pc ((L.take (j + 1)).map (fromD s k)) := by
        rw [List.take_add_one, List.getElem?_eq_getElem hjl, List.map_append, pc_append]
        simp only [Option.toList_some, List.map_cons, List.map_nil, fromD, gd hx]
        rfl
      simp -implicitDefEqProofs only [go_sem, hn3, hn4, not_false_eq_true, hn5, hnO', hn14, hnP, hn16, g3, wrap_up hjl (by omega)]
      refine ⟨(j + 1, v3), hjl, by simp only; omega, by simp -implicitDefEqProofs only [go_sem], ?_⟩
      repeat (first | exact List.Sublist.refl _ | apply List.Sublist.cons_cons | apply List.Sublist.cons)
    obtain rfl : j = L.length := by omega
    rw [List.take_length]
    simp -implicitDefEqProofs only [go_sem, dlt_false hjl, hn3, hn4, not_false_eq_true, hn5, hnO', hn14, hnP]
    refine fnPost_ret tok ?_
    simp -implicitDefEqProofs only [go_sem, Tryz.results50, hn3, hn4, not_false_eq_true, hn5, hnO', hn14, hnP]
    exact ⟨[(nO, .row 3 1 vO ((natsI out).map iA)), (nP, .row 80 2 vP (pc (L.map (fromD s k))))], Has.of_sub (List.Sublist.cons _ (List.Sublist.cons_cons _ (List.Sublist.cons _ (List.Sublist.refl _)))), .inl ⟨by rw [hok]; exact hO, out, nO, vO, hL, hW, .inr ⟨h0, nP, vP, rfl, by rw [hps]⟩⟩⟩
  · have hql : q.length ≤ 250000 := Nat.le_trans hpre.length_le (relD_len hV hn)
    obtain ⟨i, hi⟩ : ∃ i, i = gI (relD T t k) (okD T t) := ⟨_, rfl⟩
    have hgw := gapD_eq hO
    rw [← hi] at hgw
    simp only [← hi] at hlt hv1 hv2 ⊢
    have hiL : i < (relD T t k).length := Nat.lt_of_lt_of_le hlt hpre.length_le
    obtain ⟨w, hw1, hw2⟩ := gL_path (su := suD T t k) (N := T.sts.length * t.sts.length) i hiL
    have hqi : (relD T t k)[i] = q[i] := (hpre.getElem hlt).symm
    have hw2 : Path (suD T t k) (0, 0) w (relD T t k)[i].1 := hw2
    rw [hqi] at hw2
    obtain ⟨hr, he, hqin⟩ := path_runT hV hn hT hw2 rfl
    have hwl : w.length ≤ 250001 := by
      have h1 := wordRev_bound (relD T t k) (i + 1) i
      have h2 := congrArg List.length hw1
      rw [List.length_reverse, List.length_map] at h2
      have h3 : (wordRev (relD T t k) (i + 1) i).length = w.length := h2
      omega
    replace hgw : natsI w = gapD T t k := by rw [hgw]; exact hw1.symm
    have hpo := path_ok hpre gL_Lab hql i hlt
    rw [show (wordRev (relD T t k) (i + 1) i).reverse = natsI w from hw1] at hpo
    have hwant : WantOk T (wayP T v 0 w) := wayP_ok hV hV.pos hr (by rw [he]; exact hv1)
    have hwan : (wayP T v 0 w).length ≤ 250002 := by rw [wayP, List.length_append, wayQ_length]; simp only [List.length_cons, List.length_nil]; omega
    have hne : ∀ x, x < T.sts.length → T.acc x ≠ [] := by rw [hTe]; exact trim_ne hm h0
    have d : decide ((i : Int) ≥ 0) = true := by simp
    simp -implicitDefEqProofs only [go_sem, iA, d, hn3, hn4, not_false_eq_true, hn5, hnO', Sp.av, Sp.cells]
    refine AW.draw tok hmix ⟨[], [], [], false⟩ (by kernel_rfl) (Has.of_sub (List.nil_sublist _)) ?_
    simp -implicitDefEqProofs only [go_sem, iA, hn3, hn4, not_false_eq_true, hn5, hnO', Sp.av, Sp.cells]
    refine opK_pure (hpo) rfl (Sub.of_eq (by first | rfl | simp -implicitDefEqProofs only [go_sem])) ?_
    simp -implicitDefEqProofs only [go_sem, iA, hn3, hn4, not_false_eq_true, hn5, hnO', Sp.av, Sp.cells]
    refine opK_pure (Path_ok T hV w hr hwl v) rfl (Sub.of_eq (by first | rfl | simp -implicitDefEqProofs only [go_sem])) ?_
    simp -implicitDefEqProofs only [go_sem, iA, hn3, hn4, not_false_eq_true, hn5, hnO', Sp.av, Sp.cells]
    refine opK_call [] [(n2, .cells 25 [strsA s.acts, .imm 2 (stC s.sts)]), (n3, .cells 25 [strsA t.acts, .imm 2 (stC t.sts)]), (n4, .cells 47 [.raw (.bool false), .raw (.slice none 0 0), .raw (.slice none 0 0), .raw (.slice none 0 0), .raw (.slice none 0 0)]), (n5, .cells 25 [strsA T.acts, .imm 2 (stC T.sts)]), (nO, .row 3 1 vO ((natsI out).map iA))] rfl (Witness_own T hV hne _ hwant hwan) rfl (Sub.of_eq (by first | rfl | simp -implicitDefEqProofs only [go_sem, Sp.av, Sp.cells])) (List.Perm.of_eq (List.append_nil _)) ?_
    rintro xw HW ⟨nA, vA, nO2, vO2, es, ws, rfl, rfl⟩ hndW
    clear hndW
    simp -implicitDefEqProofs only [go_sem, iA, hn3, hn4, not_false_eq_true, hn5, hnO', Sp.av, Sp.cells, rowsH_names, hget_skip, hset_skip, List.append_assoc]
    refine fnPost_ret tok ?_
    simp -implicitDefEqProofs only [go_sem, Tryz.results50, hn3, hn4, not_false_eq_true, hn5, hnO', Sp.av, Sp.cells, rowsH_names, hget_skip, hset_skip, List.append_assoc]
    refine ⟨_, ?_, .inr ⟨by rw [hok]; exact hO, h0, v, w, q[i].1, by rw [← hTe]; exact hw2, by rw [← hTe]; exact hv1, hv2, nA, vA, nO2, vO2, es, ws, rfl, rfl⟩⟩
    rw [← hTe]
    exact ⟨[(n2, .cells 25 [strsA s.acts, .imm 2 (stC s.sts)]), (n3, .cells 25 [strsA t.acts, .imm 2 (stC t.sts)]), (n4, .cells 47 [.raw (.bool false), .raw (.slice none 0 0), .raw (.slice none 0 0), .own nA vA, .own nO2 vO2]), (n5, .cells 25 [strsA T.acts, .imm 2 (stC T.sts)]), (nO, .row 3 1 vO ((natsI out).map iA))], by
      classical
      exact List.perm_iff_count.2 fun z => by simp only [List.count_append, List.count_cons, List.count_nil, List.cons_append, List.nil_append] <;> omega⟩
open Go Go.NS
def optH (o : Bool) (e : Nat × AObj) : AHeap := if o then [e] else []
def optA (o : Bool) (x : AV) : AV := if o then x else .raw (.slice none 0 0)
def PartV (v : Vd) (er : Int) (o1 o2 o3 o4 : Bool) (x : AV) (H : AHeap) : Prop := ∃ nL vL nP vP nA vA nO vO es ws,
  x = .tup [.agg [abool v.holds, optA o1 (.own nL vL), optA o2 (.own nP vP), optA o3 (.own nA vA), optA o4 (.own nO vO)], iA er] ∧
  H.Perm (optH o1 (nL, .row 3 1 vL (v.lad.map iA)) ++ (optH o2 (nP, .row 80 2 vP (pc v.pairs)) ++ (optH o3 (nA, .row 9 1 vA (v.wit.acts.map sA)) ++ (optH o4 (nO, .row 98 1 vO (ownsC v.wit.sts.length es ws)) ++ rowsH v.wit.sts.length 101 2 es ws (fun j => pc (v.wit.row j)))))) ∧
  (o1 = false → v.lad = []) ∧ (o2 = false → v.pairs = []) ∧ (o3 = false → v.wit.acts = []) ∧ (o4 = false → v.wit.sts = [])
theorem lift_d (l r : List AV) (r2 : List AV) : Lift fun x => .tup (.agg (l ++ x :: r) :: r2) := Lift.tup (Lift.agg Lift.id l r) [] r2
theorem PartV.s1 {v : Vd} {er : Int} {o2 o3 o4 : Bool} {x : AV} {H : AHeap} (h : PartV v er false o2 o3 o4 x H) : ∃ g : AV → AV, x = g (.raw (.slice none 0 0)) ∧ Lift g ∧ ∀ nm, PartV v er true o2 o3 o4 (g (.own nm 0)) (H ++ [(nm, .row 3 1 0 [])]) := by
  obtain ⟨nL, vL, nP, vP, nA, vA, nO, vO, es, ws, rfl, hp, h1, h2, h3, h4⟩ := h
  have e := h1 rfl
  refine ⟨fun x => .tup [.agg [abool v.holds, x, optA o2 (.own nP vP), optA o3 (.own nA vA), optA o4 (.own nO vO)], iA er], rfl, lift_d [_] [_, _, _] [_], fun nm => ⟨nm, 0, nP, vP, nA, vA, nO, vO, es, ws, rfl, ?_, (fun h => by cases h), h2, h3, h4⟩⟩
  classical
  refine List.perm_iff_count.2 fun z => ?_
  have := List.perm_iff_count.1 hp z
  simp only [optH, if_true, if_false, Bool.false_eq_true, e, List.map_nil, pc_nil, List.count_append, List.count_cons, List.count_nil, List.nil_append] at this ⊢
  omega
theorem PartV.s2 {v : Vd} {er : Int} {o1 o3 o4 : Bool} {x : AV} {H : AHeap} (h : PartV v er o1 false o3 o4 x H) : ∃ g : AV → AV, x = g (.raw (.slice none 0 0)) ∧ Lift g ∧ ∀ nm, PartV v er o1 true o3 o4 (g (.own nm 0)) (H ++ [(nm, .row 80 2 0 [])]) := by
  obtain ⟨nL, vL, nP, vP, nA, vA, nO, vO, es, ws, rfl, hp, h1, h2, h3, h4⟩ := h
  have e := h2 rfl
  refine ⟨fun x => .tup [.agg [abool v.holds, optA o1 (.own nL vL), x, optA o3 (.own nA vA), optA o4 (.own nO vO)], iA er], rfl, lift_d [_, _] [_, _] [_], fun nm => ⟨nL, vL, nm, 0, nA, vA, nO, vO, es, ws, rfl, ?_, h1, (fun h => by cases h), h3, h4⟩⟩
  classical
  refine List.perm_iff_count.2 fun z => ?_
  have := List.perm_iff_count.1 hp z
  simp only [optH, if_true, if_false, Bool.false_eq_true, e, List.map_nil, pc_nil, List.count_append, List.count_cons, List.count_nil, List.nil_append] at this ⊢
  omega
theorem PartV.s3 {v : Vd} {er : Int} {o1 o2 o4 : Bool} {x : AV} {H : AHeap} (h : PartV v er o1 o2 false o4 x H) : ∃ g : AV → AV, x = g (.raw (.slice none 0 0)) ∧ Lift g ∧ ∀ nm, PartV v er o1 o2 true o4 (g (.own nm 0)) (H ++ [(nm, .row 9 1 0 [])]) := by
  obtain ⟨nL, vL, nP, vP, nA, vA, nO, vO, es, ws, rfl, hp, h1, h2, h3, h4⟩ := h
  have e := h3 rfl
  refine ⟨fun x => .tup [.agg [abool v.holds, optA o1 (.own nL vL), optA o2 (.own nP vP), x, optA o4 (.own nO vO)], iA er], rfl, lift_d [_, _, _] [_] [_], fun nm => ⟨nL, vL, nP, vP, nm, 0, nO, vO, es, ws, rfl, ?_, h1, h2, (fun h => by cases h), h4⟩⟩
  classical
  refine List.perm_iff_count.2 fun z => ?_
  have := List.perm_iff_count.1 hp z
  simp only [optH, if_true, if_false, Bool.false_eq_true, e, List.map_nil, pc_nil, List.count_append, List.count_cons, List.count_nil, List.nil_append] at this ⊢
  omega
theorem PartV.s4 {v : Vd} {er : Int} {o1 o2 o3 : Bool} {x : AV} {H : AHeap} (h : PartV v er o1 o2 o3 false x H) : ∃ g : AV → AV, x = g (.raw (.slice none 0 0)) ∧ Lift g ∧ ∀ nm, PartV v er o1 o2 o3 true (g (.own nm 0)) (H ++ [(nm, .row 98 1 0 [])]) := by
  obtain ⟨nL, vL, nP, vP, nA, vA, nO, vO, es, ws, rfl, hp, h1, h2, h3, h4⟩ := h
  have e := h4 rfl
  refine ⟨fun x => .tup [.agg [abool v.holds, optA o1 (.own nL vL), optA o2 (.own nP vP), optA o3 (.own nA vA), x], iA er], rfl, lift_d [_, _, _, _] [] [_], fun nm => ⟨nL, vL, nP, vP, nA, vA, nm, 0, es, ws, rfl, ?_, h1, h2, h3, (fun h => by cases h)⟩⟩
  classical
  refine List.perm_iff_count.2 fun z => ?_
  have := List.perm_iff_count.1 hp z
  rw [e] at this ⊢
  have e0 : ∀ c : Nat → List AV, rowsH ([] : List (List (Int × Int))).length 101 2 es ws c = [] := fun c => rfl
  have e1 : ownsC ([] : List (List (Int × Int))).length es ws = [] := rfl
  simp only [optH, if_true, if_false, Bool.false_eq_true, e0, e1, List.count_append, List.count_cons, List.count_nil, List.nil_append, List.append_nil] at this ⊢
  omega
def OwnV (v : Vd) (y : AV) (H : AHeap) : Prop := ∃ nL vL nP vP nA vA nO vO es ws, y = .agg [abool v.holds, .own nL vL, .own nP vP, .own nA vA, .own nO vO] ∧
  H = [(nL, .row 3 1 vL (v.lad.map iA)), (nP, .row 80 2 vP (pc v.pairs)), (nA, .row 9 1 vA (v.wit.acts.map sA)), (nO, .row 98 1 vO (ownsC v.wit.sts.length es ws))] ++ rowsH v.wit.sts.length 101 2 es ws (fun j => pc (v.wit.row j))
def GoodV (s t : Sp) (v : Vd) : Prop := v.Small ∧ (fineS s t = 0 → rightV s t s.acts.length v = true)
def RefVO (s t : Sp) (x : AV) (H : AHeap) : Prop := ∃ v y, GoodV s t v ∧ OwnV v y H ∧ x = .tup [y, iA (fineS s t)]
def RefVP (s t : Sp) (x : AV) (H : AHeap) : Prop := ∃ v o1 o2 o3 o4, GoodV s t v ∧ PartV v (fineS s t) o1 o2 o3 o4 x H
theorem refV_own {s t : Sp} {P : Program} {f : Nat} {args : List AV} (h : Fc P f args [] (RefVP s t)) : Fc P f args [] (RefVO s t) := by
  refine Fc.dropR ?_
  refine Fc.mono (R := fun x H => ∃ v, GoodV s t v ∧ PartV v (fineS s t) true true true true x H) ?_ ?_
  rotate_left
  · rintro x H ⟨v, hg, nL, vL, nP, vP, nA, vA, nO, vO, es, ws, rfl, hp, -⟩
    exact ⟨_, ⟨[], by rw [List.append_nil]; exact hp⟩, v, _, hg, ⟨nL, vL, nP, vP, nA, vA, nO, vO, es, ws, rfl, rfl⟩, rfl⟩
  refine Fc.ownRes (R := fun x H => ∃ v o4, GoodV s t v ∧ PartV v (fineS s t) true true true o4 x H) ?_ ?_
  rotate_left
  · rintro x H1 ⟨v, o4, hg, h⟩
    cases o4 with
    | true => exact .inl ⟨v, hg, h⟩
    | false =>
      obtain ⟨g, e, hl, hn⟩ := h.s4
      exact .inr ⟨g, _, 1, by decide, e, hl, fun nm _ => ⟨v, hg, hn nm⟩⟩
  refine Fc.ownRes (R := fun x H => ∃ v o3 o4, GoodV s t v ∧ PartV v (fineS s t) true true o3 o4 x H) ?_ ?_
  rotate_left
  · rintro x H1 ⟨v, o3, o4, hg, h⟩
    cases o3 with
    | true => exact .inl ⟨v, o4, hg, h⟩
    | false =>
      obtain ⟨g, e, hl, hn⟩ := h.s3
      exact .inr ⟨g, _, 1, by decide, e, hl, fun nm _ => ⟨v, o4, hg, hn nm⟩⟩
  refine Fc.ownRes (R := fun x H => ∃ v o2 o3 o4, GoodV s t v ∧ PartV v (fineS s t) true o2 o3 o4 x H) ?_ ?_
  rotate_left
  · rintro x H1 ⟨v, o2, o3, o4, hg, h⟩
    cases o2 with
    | true => exact .inl ⟨v, o3, o4, hg, h⟩
    | false =>
      obtain ⟨g, e, hl, hn⟩ := h.s2
      exact .inr ⟨g, _, 2, by decide, e, hl, fun nm _ => ⟨v, o3, o4, hg, hn nm⟩⟩
  refine Fc.ownRes h ?_
  rintro x H1 ⟨v, o1, o2, o3, o4, hg, h⟩
  cases o1 with
  | true => exact .inl ⟨v, o2, o3, o4, hg, h⟩
  | false =>
    obtain ⟨g, e, hl, hn⟩ := h.s1
    exact .inr ⟨g, _, 1, by decide, e, hl, fun nm _ => ⟨v, o2, o3, o4, hg, hn nm⟩⟩
set_option maxRecDepth 4000 in
set_option maxHeartbeats 1000000 in
theorem RefinesO_own (s t : Sp) (hs : s.Small) (ht : t.Small) (hf : s.Fit) (hg : t.Fit) : Fc Tryz.prog 16 [s.av, t.av] [] (RefVO s t) := by
  refine refV_own ?_
  refine Fc.dropR ?_
  refine Fc.of_vc tok Tryz.func16 rfl (by decide) ?_
  simp -implicitDefEqProofs only [go_sem, Tryz.ntmps16, Sp.av, Sp.cells]
  refine newK_intro fun n2 hn2 => ?_
  try simp -implicitDefEqProofs only [hset, frt] at hn2
  simp -implicitDefEqProofs only [go_sem]
  refine newK_intro fun n3 hn3 => ?_
  try simp -implicitDefEqProofs only [hset, frt] at hn3
  simp -implicitDefEqProofs only [go_sem, hn3]
  refine newK_intro fun n4 hn4 => ?_
  try simp -implicitDefEqProofs only [hset, frt] at hn4
  simp -implicitDefEqProofs only [go_sem, hn3, hn4, not_false_eq_true]
  refine opK_pure (FineS_ok s t hs ht hf hg) rfl (Sub.of_eq (by first | rfl | simp -implicitDefEqProofs only [go_sem])) ?_
  simp -implicitDefEqProofs only [go_sem, iA]
  by_cases c0 : fineS s t = 0
  rotate_left
  · simp -implicitDefEqProofs only [go_sem, c0, decide_false, hn3, hn4, not_false_eq_true]
    refine fnPost_ret tok ?_
    simp -implicitDefEqProofs only [go_sem, Tryz.results16, hn3, hn4, not_false_eq_true]
    exact ⟨[], Has.of_sub (List.nil_sublist _), Vd.zero, false, false, false, false, ⟨zero_small, fun h => absurd h c0⟩, 0, 0, 0, 0, 0, 0, 0, 0, fun _ => 0, fun _ => 0, rfl, List.Perm.refl _, fun _ => rfl, fun _ => rfl, fun _ => rfl, fun _ => rfl⟩
  have C := fineS_cmp c0
  have hv1 : s.validB = true := by
    cases h : s.validB with
    | true => rfl
    | false => simp [fineS, h] at c0
  simp -implicitDefEqProofs only [go_sem, c0, decide_true, hn3, hn4, not_false_eq_true]
  refine opK_call [] [(n2, .cells 25 [strsA s.acts, .imm 2 (stC s.sts)]), (n3, .cells 25 [strsA t.acts, .imm 2 (stC t.sts)]), (n4, .cells 47 [.raw (.bool false), .raw (.slice none 0 0), .raw (.slice none 0 0), .raw (.slice none 0 0), .raw (.slice none 0 0)])] rfl (JudgeO_own s t hv1 C.m C.n) rfl (Sub.of_eq (by first | rfl | simp -implicitDefEqProofs only [go_sem, Sp.av, Sp.cells])) (List.Perm.of_eq (List.append_nil _)) ?_
  rintro x H1 (⟨hr, out, nO, vO, hL, hW, ⟨h0, rfl, rfl⟩ | ⟨h0, nP, vP, rfl, rfl⟩⟩ | ⟨hr, h0, v, w, q, h1, h2, h3, nA, vA, nO, vO, es, ws, rfl, rfl⟩) hnd
  · obtain ⟨g1, g2⟩ := refV_yes C hr hL hW
    rw [if_pos h0] at g1 g2
    simp -implicitDefEqProofs only [go_sem, hn3, hn4, not_false_eq_true, rowsH_names, hget_skip, hset_skip, List.append_assoc]
    refine fnPost_ret tok ?_
    simp -implicitDefEqProofs only [go_sem, Tryz.results16, hn3, hn4, not_false_eq_true, rowsH_names, hget_skip, hset_skip, List.append_assoc]
    refine ⟨[(nO, .row 3 1 vO ((natsI out).map iA))], ?_, ⟨true, natsI out, [], ⟨[], []⟩⟩, true, false, false, false, ⟨g1, fun _ => g2⟩, nO, vO, 0, 0, 0, 0, 0, 0, fun _ => 0, fun _ => 0, by rw [c0]; rfl, List.Perm.refl _, (fun h => by cases h), fun _ => rfl, fun _ => rfl, fun _ => rfl⟩
    exact Has.of_sub (List.Sublist.cons _ (List.Sublist.cons _ (List.Sublist.cons _ (List.Sublist.refl _))))
  · obtain ⟨g1, g2⟩ := refV_yes C hr hL hW
    rw [if_neg h0] at g1 g2
    simp -implicitDefEqProofs only [go_sem, hn3, hn4, not_false_eq_true, rowsH_names, hget_skip, hset_skip, List.append_assoc]
    refine fnPost_ret tok ?_
    simp -implicitDefEqProofs only [go_sem, Tryz.results16, hn3, hn4, not_false_eq_true, rowsH_names, hget_skip, hset_skip, List.append_assoc]
    refine ⟨[(nO, .row 3 1 vO ((natsI out).map iA)), (nP, .row 80 2 vP (pc (pairsD s t s.acts.length)))], ?_, ⟨true, natsI out, pairsD s t s.acts.length, ⟨[], []⟩⟩, true, true, false, false, ⟨g1, fun _ => g2⟩, nO, vO, nP, vP, 0, 0, 0, 0, fun _ => 0, fun _ => 0, by rw [c0]; rfl, List.Perm.refl _, (fun h => by cases h), (fun h => by cases h), fun _ => rfl, fun _ => rfl⟩
    exact Has.of_sub (List.Sublist.cons _ (List.Sublist.cons _ (List.Sublist.cons _ (List.Sublist.refl _))))
  · obtain ⟨g1, g2⟩ := refV_no C h0 h1 h2 h3
    obtain ⟨W, hWe⟩ : ∃ W, W = witS (trimS s s.acts.length) s.acts.length (wayP (trimS s s.acts.length) v 0 w) := ⟨_, rfl⟩
    rw [← hWe] at g1 g2 ⊢
    simp -implicitDefEqProofs only [go_sem, hn3, hn4, not_false_eq_true, rowsH_names, hget_skip, hset_skip, List.append_assoc]
    refine fnPost_ret tok ?_
    simp -implicitDefEqProofs only [go_sem, Tryz.results16, hn3, hn4, not_false_eq_true, rowsH_names, hget_skip, hset_skip, List.append_assoc]
    refine ⟨[(nA, .row 9 1 vA (W.acts.map sA)), (nO, .row 98 1 vO (ownsC W.sts.length es ws))] ++ rowsH W.sts.length 101 2 es ws (fun j => pc (W.row j)), ?_, ⟨false, [], [], W⟩, false, false, true, true, ⟨g1, fun _ => g2⟩, 0, 0, 0, 0, nA, vA, nO, vO, es, ws, by rw [c0]; rfl, List.Perm.refl _, fun _ => rfl, fun _ => rfl, (fun h => by cases h), (fun h => by cases h)⟩
    exact ⟨[(n2, .cells 25 [strsA s.acts, .imm 2 (stC s.sts)]), (n3, .cells 25 [strsA t.acts, .imm 2 (stC t.sts)]), (n4, .cells 47 [.raw (.bool false), .raw (.slice none 0 0), .raw (.slice none 0 0), .own nA vA, .own nO vO])], by
      classical
      exact List.perm_iff_count.2 fun z => by simp only [List.count_append, List.count_cons, List.count_nil, List.cons_append, List.nil_append] <;> omega⟩
end Go.Proofs.YtfininfcljdkbaaGreat
