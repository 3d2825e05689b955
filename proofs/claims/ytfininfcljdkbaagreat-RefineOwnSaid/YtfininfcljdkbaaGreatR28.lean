/- Systems, part Xd: two systems are the same, by the reference (structs compared). -/
import Derived.Test.YtfininfcljdkbaaGreatR3
import Derived.Test.YtfininfcljdkbaaGreatR27
set_option linter.unusedSimpArgs false
set_option linter.unusedVariables false
namespace Go.Proofs.YtfininfcljdkbaaGreat
open Go Go.NS
theorem edge_names : (Tryz.prog.fieldsOf 101).toList.all (fun f => f.name != "_") = true := by kernel_rfl
theorem edge_stood : Tryz.prog.stoodInHeld 101 = false := by kernel_rfl
theorem edge_guard : Tryz.prog.eqGuardType Tryz.prog.depth 101 = false := by kernel_rfl
set_option maxHeartbeats 4000000 in
theorem SameEdges_ok (a b : List (Int × Int)) (ha : a.length * 16 ≤ 140737488351232) (hb : b.length * 16 ≤ 140737488351232) : Fp Tryz.prog 72 [pairsA a, pairsA b] (abool (decide (a = b))) := by
  refine Fp.of_vc tok Tryz.func72 rfl (by decide) ?_
  simp -implicitDefEqProofs only [go_sem, Tryz.ntmps72, pairsA, pc_div]
  by_cases hl : a.length = b.length
  · have hl' : (a.length : Int) = (b.length : Int) := by omega
    simp -implicitDefEqProofs only [go_sem, hl', decide_true, pc_div]
    refine AW.loopG tok (fun i : Nat => slots 26 [(0, pairsA a), (1, pairsA b), (4, abool false), (12, pairsA a), (13, iA b.length), (14, iA i)]) (fun _ => [])
      (fun i => i ≤ a.length ∧ a.take i = b.take i) (fun i => a.length - i) 0 ⟨by omega, rfl⟩ (by simp -implicitDefEqProofs only [go_sem, pairsA, iA]) (List.Sublist.refl _) ?_
    rintro i ⟨hi, heq⟩
    simp -implicitDefEqProofs only [go_sem, pairsA, iA]
    by_cases hlt : i < a.length
    · have hlt2 : i < b.length := by omega
      have e1 : decide ((i : Int) < (b.length : Int)) = true := by simp; omega
      have e2 := pc_get a i hlt
      have e3 := pc_get b i hlt2
      have e4 : i * 2 + 2 ≤ (pc a).length := by rw [pc_length]; omega
      have e5 : i * 2 + 2 ≤ (pc b).length := by rw [pc_length]; omega
      have e6 : i * 2 < (pc a).length := by omega
      have e7 : i * 2 < (pc b).length := by omega
      simp -implicitDefEqProofs only [go_sem, e1, e6, e4, e2]
      refine newK_intro fun n1 hn1 => ?_
      try simp -implicitDefEqProofs only [hset, frt] at hn1
      simp -implicitDefEqProofs only [go_sem]
      refine AW.drawNeq tok hmix ⟨[], [], [], false⟩ rfl (by kernel_rfl) (Has.of_sub (List.nil_sublist _)) T101 rfl T3 rfl edge_names edge_stood edge_guard (by rfl) (by rfl) (by rfl) (fun z e => by cases e) ?_
      simp -implicitDefEqProofs only [go_sem, List.dropLast_cons_cons, List.dropLast_singleton, e7, e5, e3, iA]
      refine ⟨a[i].1, a[i].2, b[i].1, b[i].2, rfl, rfl, ?_⟩
      by_cases hx : a[i] = b[i]
      · have hw := wrap_succ i a.length hlt (by omega)
        have hx2 : a[i].1 = b[i].1 ∧ a[i].2 = b[i].2 := by rw [hx]; exact ⟨rfl, rfl⟩
        simp -implicitDefEqProofs only [go_sem, hx2, decide_true, hw, List.getLast_cons_cons, List.getLast_singleton]
        refine ⟨i + 1, ⟨by omega, ?_⟩, by omega, by simp -implicitDefEqProofs only [go_sem, pairsA, iA], List.nil_sublist _⟩
        rw [List.take_add_one, List.take_add_one, heq, List.getElem?_eq_getElem hlt, List.getElem?_eq_getElem hlt2, hx]
      · have hx' : (decide (a[i].1 = b[i].1 ∧ a[i].2 = b[i].2)) = false := decide_eq_false fun e => hx (Prod.ext e.1 e.2)
        simp -implicitDefEqProofs only [go_sem, hx', List.getLast_cons_cons, List.getLast_singleton]
        have hne : a ≠ b := fun e => hx (by subst e; rfl)
        refine fnPost_ret tok ?_
        simp -implicitDefEqProofs only [go_sem, Tryz.results72, hne, decide_false]
    · have e1 : decide ((i : Int) < (b.length : Int)) = false := by simp; omega
      have heq2 : a = b := by rw [List.take_of_length_le (by omega), List.take_of_length_le (by omega)] at heq; exact heq
      simp -implicitDefEqProofs only [go_sem, e1]
      refine fnPost_ret tok ?_
      simp -implicitDefEqProofs only [go_sem, Tryz.results72, heq2, decide_true]
  · have hl' : ¬ (a.length : Int) = (b.length : Int) := by omega
    simp -implicitDefEqProofs only [go_sem, hl', decide_false]
    have hne : a ≠ b := fun e => hl (by rw [e])
    refine fnPost_ret tok ?_
    simp -implicitDefEqProofs only [go_sem, Tryz.results72, hne, decide_false]
open Go Go.NS
def Sy.sameB (s t : Sy) : Bool := decide (s.acts = t.acts) && decide (s.sts = t.sts)
set_option maxHeartbeats 4000000 in
theorem SameSy_ok (s t : Sy) (hs : s.Small) (ht : t.Small) : Fp Tryz.prog 38 [s.av, t.av] (abool (s.sameB t)) := by
  have h1 := hs.a
  have h2 := hs.n
  have h3 := ht.a
  have h4 := ht.n
  refine Fp.of_vc tok Tryz.func38 rfl (by decide) ?_
  simp -implicitDefEqProofs only [go_sem, Tryz.ntmps38, Sy.av, Sy.cells]
  refine newK_intro fun n1 hn1 => ?_
  try simp -implicitDefEqProofs only [hset, frt] at hn1
  simp -implicitDefEqProofs only [go_sem]
  refine newK_intro fun n2 hn2 => ?_
  try simp -implicitDefEqProofs only [hset, frt] at hn2
  simp -implicitDefEqProofs only [go_sem, hn2]
  refine opK_pure (SameStrings_ok s.acts t.acts h1 h3) rfl (Sub.of_eq (by first | rfl | simp -implicitDefEqProofs only [go_sem])) ?_
  by_cases ca : s.acts = t.acts
  rotate_left
  · have e : s.sameB t = false := by simp [Sy.sameB, ca]
    simp -implicitDefEqProofs only [go_sem, ca, decide_false]
    refine fnPost_ret tok ?_
    simp -implicitDefEqProofs only [go_sem, Tryz.results38, e]
  rw [decide_eq_true ca]
  simp -implicitDefEqProofs only [go_sem, hn2, List.length_map, Nat.div_one]
  by_cases cl : s.sts.length = t.sts.length
  rotate_left
  · have e : s.sameB t = false := by
      have : s.sts ≠ t.sts := fun e => cl (by rw [e])
      simp [Sy.sameB, this]
    have e1 : ¬ (s.sts.length : Int) = (t.sts.length : Int) := by omega
    simp -implicitDefEqProofs only [go_sem, e1, decide_false]
    refine fnPost_ret tok ?_
    simp -implicitDefEqProofs only [go_sem, Tryz.results38, e]
  have e1 : (s.sts.length : Int) = (t.sts.length : Int) := by omega
  simp -implicitDefEqProofs only [go_sem, e1, decide_true, List.length_map, Nat.div_one]
  refine AW.loopG tok (fun i : Nat => slots 39 [(3, .ptr n2 0), (23, .imm 1 (s.sts.map pairsA)), (24, iA t.sts.length), (25, iA i)]) (fun _ => [(n2, .cells 45 [strsA t.acts, .imm 1 (t.sts.map pairsA)])])
    (fun i => i ≤ s.sts.length ∧ s.sts.take i = t.sts.take i) (fun i => s.sts.length - i) 0 ⟨Nat.zero_le _, rfl⟩ (by simp -implicitDefEqProofs only [go_sem, iA, e1]) (List.sublist_cons_self _ _) ?_
  rintro i ⟨hi, heq⟩
  simp -implicitDefEqProofs only [go_sem, iA]
  by_cases hlt : i < s.sts.length
  rotate_left
  · have e : s.sameB t = true := by simp [Sy.sameB, ca, take_eq_all cl (by omega) heq]
    simp -implicitDefEqProofs only [go_sem, dlt_false (show ¬ i < t.sts.length by omega)]
    refine fnPost_ret tok ?_
    simp -implicitDefEqProofs only [go_sem, Tryz.results38, e]
  have hlt2 : i < t.sts.length := by omega
  have g1 : (s.sts.map pairsA)[i]? = some (pairsA s.sts[i]) := by simp [hlt]
  have g2 : (t.sts.map pairsA)[i]? = some (pairsA t.sts[i]) := by simp [hlt2]
  have p1 := hs.r s.sts[i] (List.getElem_mem hlt)
  have p2 := ht.r t.sts[i] (List.getElem_mem hlt2)
  simp -implicitDefEqProofs only [go_sem, dlt_true hlt2, hlt, hlt2, g1, g2, List.length_map, Nat.div_one]
  refine opK_pure (SameEdges_ok s.sts[i] t.sts[i] p1 p2) rfl (Sub.of_eq (by first | rfl | simp -implicitDefEqProofs only [go_sem])) ?_
  by_cases c1 : s.sts[i] = t.sts[i]
  rotate_left
  · have e : s.sameB t = false := by
      have : s.sts ≠ t.sts := fun e => c1 (by simp only [e])
      simp [Sy.sameB, this]
    simp -implicitDefEqProofs only [go_sem, c1, decide_false]
    refine fnPost_ret tok ?_
    simp -implicitDefEqProofs only [go_sem, Tryz.results38, e]
  rw [decide_eq_true c1]
  simp -implicitDefEqProofs only [go_sem, wrap_up hlt (by omega)]
  exact ⟨i + 1, ⟨hlt, take_eq_succ hlt hlt2 heq c1⟩, by omega, by simp -implicitDefEqProofs only [go_sem], List.Sublist.refl _⟩
theorem twinO_ok (p : Pf) (hp : p.Small) {nL vL nP vP : Nat} : Fk Tryz.prog [(nL, .row 3 1 vL (p.lad.map iA)), (nP, .row 80 2 vP (pc p.pairs))] 32 [.agg [.own nL vL, .own nP vP]] p.av := by
  refine Fc.dropR ?_
  have h1 := hp.l
  have h2 := hp.p
  refine Fc.of_vcN tok Tryz.func32 rfl (by decide) fun hnd => ?_
  have hPL : ¬ nP = nL := fun e => by simp [e] at hnd
  clear hnd
  simp -implicitDefEqProofs only [go_sem, Tryz.ntmps32, not_false_eq_true, hPL, asrc]
  refine newK_intro fun n1 hn1 => ?_
  try simp -implicitDefEqProofs only [hset, frt] at hn1
  simp -implicitDefEqProofs only [go_sem, not_false_eq_true, hPL, asrc, hn1]
  refine newK_intro fun n2 hn2 => ?_
  try simp -implicitDefEqProofs only [hset, frt] at hn2
  simp -implicitDefEqProofs only [go_sem, not_false_eq_true, hPL, asrc, hn1, hn2]
  refine AW.draw tok hmix ⟨[], [], [], false⟩ (by kernel_rfl) (Has.of_sub (List.nil_sublist _)) ?_
  simp -implicitDefEqProofs only [go_sem, not_false_eq_true, hPL, asrc, hn1, hn2]
  refine opK_appendImm (ys := p.lad.map iA) tok rfl (by simp -implicitDefEqProofs only [go_sem, not_false_eq_true, hPL, asrc, hn1, hn2]) T39 rfl T3 (by decide) rfl (by decide) (by simp only [List.length_map, Nat.div_one] <;> omega) ?_
  simp -implicitDefEqProofs only [go_sem, not_false_eq_true, hPL, asrc, hn1, hn2]
  refine opK_appendImm (ys := pc p.pairs) tok rfl (by simp -implicitDefEqProofs only [go_sem, not_false_eq_true, hPL, asrc, hn1, hn2]) T40 rfl T80 (by decide) rfl (by decide) (by simp only [pc_div] <;> omega) ?_
  simp -implicitDefEqProofs only [go_sem, not_false_eq_true, hPL, asrc, hn1, hn2]
  refine fnPost_ret tok ?_
  simp -implicitDefEqProofs only [go_sem, Tryz.results32, not_false_eq_true, hPL, asrc, hn1, hn2]
  refine ⟨_, ?_, rfl, rfl⟩
  exact Has.of_sub (List.Sublist.cons_cons _ (List.Sublist.cons_cons _ (List.nil_sublist _)))
set_option maxRecDepth 4000 in
set_option maxHeartbeats 8000000 in
theorem CopyYo_ok (W : Sy) (hW : W.Small) {nA vA nS vS : Nat} {ns vs : Nat → Nat} : Fk Tryz.prog ([(nA, .row 9 1 vA (W.acts.map sA)), (nS, .row 98 1 vS (ownsC W.sts.length ns vs))] ++ rowsH W.sts.length 101 2 ns vs (fun j => pc (W.row j))) 23 [.agg [.own nA vA, .own nS vS]] W.av := by
  refine Fc.dropR ?_
  have h1 := hW.a
  have h2 := hW.n
  obtain ⟨n, hn⟩ : ∃ n, W.sts.length = n := ⟨_, rfl⟩
  refine Fc.of_vcN tok Tryz.func23 rfl (by decide) fun hnd => ?_
  rw [hn]
  rw [List.map_append, rowsH_names, List.nodup_append, hn] at hnd
  have hI : Inj n ns := injN_of_nodup hnd.2.1
  have hnA : ∀ x, x < n → ¬ ns x = nA := fun x hx e => hnd.2.2 nA (by simp) (ns x) (List.mem_map_of_mem (by simpa using hx)) e.symm
  have hnS : ∀ x, x < n → ¬ ns x = nS := fun x hx e => hnd.2.2 nS (by simp) (ns x) (List.mem_map_of_mem (by simpa using hx)) e.symm
  have hAS : ¬ nS = nA := fun e => by have := hnd.1; simp [e] at this
  have hmA := names_mem hnA
  have hmS := names_mem hnS
  clear hnd
  simp -implicitDefEqProofs only [go_sem, Tryz.ntmps23]
  refine newK_intro fun n1 hn1 => ?_
  try simp -implicitDefEqProofs only [hset, rowsH_names, frt] at hn1
  simp -implicitDefEqProofs only [go_sem, not_false_eq_true, hget_skip, hset_skip, List.append_assoc, rowsH_names, hAS, hmA, hmS, asrc, hn1]
  refine newK_intro fun n2 hn2 => ?_
  try simp -implicitDefEqProofs only [hset, rowsH_names, frt] at hn2
  simp -implicitDefEqProofs only [go_sem, not_false_eq_true, hget_skip, hset_skip, List.append_assoc, rowsH_names, hAS, hmA, hmS, asrc, hn1, hn2]
  refine opK_appendImm (ys := W.acts.map sA) tok rfl (by simp -implicitDefEqProofs only [go_sem, not_false_eq_true, hget_skip, hset_skip, List.append_assoc, rowsH_names, hAS, hmA, hmS, asrc, hn1, hn2]) T22 rfl T9 (by decide) rfl (by decide) (by simp only [List.length_map, Nat.div_one] <;> omega) ?_
  simp -implicitDefEqProofs only [go_sem, not_false_eq_true, hget_skip, hset_skip, List.append_assoc, rowsH_names, hAS, hmA, hmS, asrc, hn1, hn2]
  refine newK_intro fun n3 hn3 => ?_
  try simp -implicitDefEqProofs only [hset, rowsH_names, frt] at hn3
  simp -implicitDefEqProofs only [go_sem, not_false_eq_true, hget_skip, hset_skip, List.append_assoc, rowsH_names, hAS, hmA, hmS, asrc, hn1, hn2, hn3, ownsC_length]
  refine AW.adoptIn n3 1 98 (sz := 1) (by decide) (by simp -implicitDefEqProofs only [go_sem, not_false_eq_true, hget_skip, hset_skip, List.append_assoc, rowsH_names, hAS, hmA, hmS, asrc, hn1, hn2, hn3]; rfl) rfl fun n4 hn4 => ?_
  try simp -implicitDefEqProofs only [hset, rowsH_names, frt] at hn4
  simp -implicitDefEqProofs only [go_sem, not_false_eq_true, hget_skip, hset_skip, List.append_assoc, rowsH_names, hAS, hmA, hmS, asrc, hn1, hn2, hn3, hn4, Nat.div_one]
  refine AW.loopP tok (α := Nat × Nat) (fun p => slots 26 [(2, .ptr n2 0), (3, .ptr n3 0), (11, .own nS vS), (12, iA n), (13, iA p.1)])
    (fun p => [(nA, .row 9 1 vA (W.acts.map sA)), (nS, .row 98 1 vS (ownsC n ns vs))] ++ (rowsH n 101 2 ns vs (fun j => pc (W.row j)) ++ [(n1, .cells 45 [.own nA vA, .own nS vS]), (n2, .cells 45 [.raw (.slice none 0 0), .raw (.slice none 0 0)]), (n3, .cells 45 [.imm 1 (W.acts.map sA), .own n4 p.2]), (n4, .row 98 1 p.2 ((W.sts.take p.1).map pairsA))]))
    (fun p => p.1 ≤ n) (fun p => n - p.1) (0, 0) (Nat.zero_le _) (by simp -implicitDefEqProofs only [go_sem, iA]) (by simp only [List.cons_append, List.nil_append, List.take_zero]; exact Has.refl _) ?_
  rintro ⟨i, ver⟩ hi
  simp only at hi
  simp -implicitDefEqProofs only [go_sem, iA]
  by_cases hlt : i < n
  · have hlt2 : i < W.sts.length := by omega
    have e2 := ownsC_get ns vs hlt
    have e3 : i + 1 ≤ n := hlt
    have q1 : pc (W.row i) = pc W.sts[i] := by rw [Sy.row_eq hlt2]
    have p1 := hW.r W.sts[i] (List.getElem_mem hlt2)
    have g1 := hnA _ hlt
    have g2 := hnS _ hlt
    have g5 : ∀ B : AHeap, hget (rowsH n 101 2 ns vs (fun j => pc (W.row j)) ++ B) (ns i) = some (.row 101 2 (vs i) (pc W.sts[i])) := fun B => by rw [hget_rowsE hI hlt B, q1]
    simp -implicitDefEqProofs only [go_sem, dlt_true hlt, not_false_eq_true, hget_skip, hset_skip, List.append_assoc, rowsH_names, hAS, hmA, hmS, asrc, hn1, hn2, hn3, hn4, ownsC_length, Nat.div_one, hlt, e2, e3]
    refine AW.draw tok hmix ⟨[22], [], [], false⟩ (by kernel_rfl) (Has.of_sub (List.nil_sublist _)) ?_
    simp -implicitDefEqProofs only [go_sem, not_false_eq_true, hget_skip, hset_skip, List.append_assoc, rowsH_names, hAS, hmA, hmS, asrc, hn1, hn2, hn3, hn4, g1, g2, g5]
    refine opK_appendImm (ys := pc W.sts[i]) tok rfl (by simp -implicitDefEqProofs only [go_sem, not_false_eq_true, hget_skip, hset_skip, List.append_assoc, rowsH_names, hAS, hmA, hmS, asrc, hn1, hn2, hn3, hn4, g1, g2, g5]) T98 rfl T101 (by decide) rfl (by decide) (by simp only [pc_div] <;> omega) ?_
    simp -implicitDefEqProofs only [go_sem, not_false_eq_true, hget_skip, hset_skip, List.append_assoc, rowsH_names, hAS, hmA, hmS, asrc, hn1, hn2, hn3, hn4, g1, g2, g5]
    refine opK_lit tok T43 rfl T98 (by decide) (by simp -implicitDefEqProofs only [go_sem, zrep, List.flatten_cons, List.flatten_nil]; rfl) ?_
    simp -implicitDefEqProofs only [go_sem, not_false_eq_true, hget_skip, hset_skip, List.append_assoc, rowsH_names, hAS, hmA, hmS, asrc, hn1, hn2, hn3, hn4, g1, g2, g5]
    refine opK_append tok rfl rfl (by simp -implicitDefEqProofs only [go_sem, not_false_eq_true, hget_skip, hset_skip, List.append_assoc, rowsH_names, hAS, hmA, hmS, asrc, hn1, hn2, hn3, hn4, g1, g2, g5]; rfl) rfl T43 rfl T98 rfl (by decide) (by simp only [List.length_map, List.length_take, List.length_cons, List.length_nil, Nat.div_one]; omega) fun ver' => ?_
    have e6 : (W.sts.take i).map pairsA ++ [.imm 2 (pc W.sts[i])] = (W.sts.take (i + 1)).map pairsA := by
      rw [List.take_succ_eq_append_getElem hlt2, List.map_append]; rfl
    simp -implicitDefEqProofs only [go_sem, not_false_eq_true, hget_skip, hset_skip, List.append_assoc, rowsH_names, hAS, hmA, hmS, asrc, hn1, hn2, hn3, hn4, g1, g2, g5, e6, wrap_up hlt (by omega)]
    refine ⟨(i + 1, ver'), hlt, by simp only; omega, by simp -implicitDefEqProofs only [go_sem, iA], ?_⟩
    simp only [List.cons_append, List.nil_append]
    exact Has.refl _
  · have e2 : W.sts.take i = W.sts := List.take_of_length_le (by omega)
    simp -implicitDefEqProofs only [go_sem, dlt_false hlt, not_false_eq_true, hget_skip, hset_skip, List.append_assoc, rowsH_names, hAS, hmA, hmS, asrc, hn1, hn2, hn3, hn4, e2]
    refine fnPost_fz [(n4, .row 98 1 ver (W.sts.map pairsA))] ((n2, .cells 45 [.imm 1 (W.acts.map sA), .own n4 ver]) :: (n1, .cells 45 [.own nA vA, .own nS vS]) :: (n3, .cells 45 [.imm 1 (W.acts.map sA), .own n4 ver]) :: ([(nA, .row 9 1 vA (W.acts.map sA)), (nS, .row 98 1 vS (ownsC n ns vs))] ++ rowsH n 101 2 ns vs (fun j => pc (W.row j)))) (t' := slots 26 [(2, .ptr n2 0)]) (B' := (n2, .cells 45 [.imm 1 (W.acts.map sA), .imm 1 (W.sts.map pairsA)]) :: (n1, .cells 45 [.own nA vA, .own nS vS]) :: (n3, .cells 45 [.imm 1 (W.acts.map sA), .own n4 ver]) :: ([(nA, .row 9 1 vA (W.acts.map sA)), (nS, .row 98 1 vS (ownsC n ns vs))] ++ rowsH n 101 2 ns vs (fun j => pc (W.row j)))) ?_ (ale_fzs (by simp -implicitDefEqProofs only [go_sem, iA])) (FzH.cons (.cells (Fzs.cons (Fz.refl _) (Fzs.cons (Fz.rowS (t := 98) List.mem_cons_self (Fzs.refl _)) Fzs.nil))) (FzH.refl _)) ?_
    · classical
      exact List.perm_iff_count.2 fun z => by simp only [List.count_append, List.count_cons, List.count_nil, List.cons_append, List.nil_append] <;> omega
    simp -implicitDefEqProofs only [go_sem]
    refine fnPost_ret tok ?_
    simp -implicitDefEqProofs only [go_sem, Tryz.results23]
    refine ⟨_, ?_, rfl, rfl⟩
    exact ⟨[(n2, .cells 45 [.imm 1 (W.acts.map sA), .imm 1 (W.sts.map pairsA)]), (n1, .cells 45 [.own nA vA, .own nS vS]), (n3, .cells 45 [.imm 1 (W.acts.map sA), .own n4 ver])], by
      classical
      exact List.perm_iff_count.2 fun z => by simp only [List.count_append, List.count_cons, List.count_nil, List.cons_append, List.nil_append] <;> omega⟩
open Go Go.NS
theorem rowsSy (W : Sy) : W.sts.map pairsA = (List.range W.sts.length).map fun j => AV.imm 2 (pc (W.row j)) := by
  refine List.ext_getElem (by simp) fun j h1 h2 => ?_
  have hj : j < W.sts.length := by simpa using h1
  simp only [List.getElem_map, List.getElem_range]
  rw [Sy.row_eq hj]; rfl
theorem OwnV.fz {v : Vd} {y : AV} {H A : AHeap} (h : OwnV v y H) (hA : ∀ p ∈ H, p ∈ A) : Fz A y v.av := by
  obtain ⟨nL, vL, nP, vP, nA, vA, nO, vO, es, ws, rfl, rfl⟩ := h
  refine Fz.aggS (Fzs.cons (Fz.refl _) (Fzs.cons (Fz.rowS (t := 3) (hA _ (by simp)) (Fzs.refl _)) (Fzs.cons (Fz.rowS (t := 80) (hA _ (by simp)) (Fzs.refl _)) (Fzs.cons (Fz.rowS (t := 9) (hA _ (by simp)) (Fzs.refl _)) (Fzs.cons ?_ Fzs.nil)))))
  refine Fz.rowS (t := 98) (xs := ownsC v.wit.sts.length es ws) (hA _ (by simp)) ?_
  rw [rowsSy]
  exact Fzs.map fun k hk => Fz.rowS (t := 101) (hA _ (List.mem_append_right _ (List.mem_map.2 ⟨k, hk, rfl⟩))) (Fzs.refl _)
theorem setC_at {l : List AV} {i j : Nat} {x : AV} (h : i < l.length) (hj : i + 1 ≤ j) : (List.take i l ++ x :: List.drop (i + 1) l)[j]? = l[j]? := by
  rw [take_setC h, List.getElem?_set_ne (by omega)]
theorem setC1_len {β : Type} {l : List β} {i : Nat} {x : β} (h : i < l.length) : (List.take i l ++ x :: List.drop (i + 1) l).length = l.length := by
  rw [take_setC h, List.length_set]
theorem setC2_len {l : List AV} {i : Nat} {x y : AV} (h : i + 2 ≤ l.length) : (List.take i l ++ x :: y :: List.drop (i + 2) l).length = l.length := by
  simp only [List.length_append, List.length_take, List.length_cons, List.length_drop]; omega
set_option maxRecDepth 4000 in
set_option maxHeartbeats 8000000 in
theorem WreckO_ok (W : Sy) (hW : W.Small) {nA vA nS vS : Nat} {ns vs : Nat → Nat} : Fc Tryz.prog 40 [.agg [.own nA vA, .own nS vS]] ([(nA, .row 9 1 vA (W.acts.map sA)), (nS, .row 98 1 vS (ownsC W.sts.length ns vs))] ++ rowsH W.sts.length 101 2 ns vs (fun j => pc (W.row j))) fun _ H' => H' = [] := by
  refine Fc.dropR ?_
  have h1 := hW.a
  have h2 := hW.n
  obtain ⟨n, hn⟩ : ∃ n, W.sts.length = n := ⟨_, rfl⟩
  obtain ⟨m, hm⟩ : ∃ m, W.acts.length = m := ⟨_, rfl⟩
  obtain ⟨cs0, hcs⟩ : ∃ cs0, cs0 = W.acts.map sA := ⟨_, rfl⟩
  obtain ⟨rc0, hrc⟩ : ∃ rc0 : Nat → List AV, rc0 = fun j => pc (W.row j) := ⟨_, rfl⟩
  have hcl : cs0.length = m := by rw [hcs, List.length_map, hm]
  have hrl : ∀ k, k < n → ∃ w, (rc0 k).length = w * 2 ∧ w * 16 ≤ 140737488351232 := fun k hk => by
    have hk2 : k < W.sts.length := by omega
    refine ⟨(W.sts[k]).length, ?_, hW.r _ (List.getElem_mem hk2)⟩
    rw [hrc]
    simp only
    rw [Sy.row_eq hk2, pc_length]
  rw [← hcs, ← hrc, hn]
  rw [hm] at h1
  rw [hn] at h2
  refine Fc.of_vcN tok Tryz.func40 rfl (by decide) fun hnd => ?_
  rw [List.map_append, rowsH_names, List.nodup_append] at hnd
  have hI : Inj n ns := injN_of_nodup hnd.2.1
  have hnA : ∀ x, x < n → ¬ ns x = nA := fun x hx e => hnd.2.2 nA (by simp) (ns x) (List.mem_map_of_mem (by simpa using hx)) e.symm
  have hnS : ∀ x, x < n → ¬ ns x = nS := fun x hx e => hnd.2.2 nS (by simp) (ns x) (List.mem_map_of_mem (by simpa using hx)) e.symm
  have hAS : ¬ nS = nA := fun e => by have := hnd.1; simp [e] at this
  have hmA := names_mem hnA
  have hmS := names_mem hnS
  clear hnd
  simp -implicitDefEqProofs only [go_sem, Tryz.ntmps40, iA]
  refine newK_intro fun n1 hn1 => ?_
  try simp -implicitDefEqProofs only [hset, rowsH_names, frt] at hn1
  simp -implicitDefEqProofs only [go_sem, not_false_eq_true, hget_skip, hset_skip, List.append_assoc, rowsH_names, hAS, hmA, hmS, hn1, hcl, Nat.div_one]
  refine AW.loopP tok (α := Nat × List AV) (fun a => slots 45 [(1, .ptr n1 0), (7, iA m), (8, iA a.1)]) (fun a => ([(nA, .row 9 1 vA (a.2)), (nS, .row 98 1 vS ((ownsC n ns vs)))] ++ (rowsH n 101 2 ns vs (rc0) ++ [(n1, .cells 45 [.own nA vA, .own nS vS])]))) (fun a => a.1 ≤ m ∧ a.2.length = m) (fun a => m - a.1) (0, cs0) ⟨Nat.zero_le _, hcl⟩ (by simp -implicitDefEqProofs only [go_sem, iA]) ?_ ?_
  · simp only [List.cons_append, List.nil_append]
    exact Has.refl _
  rintro ⟨i, cs⟩ ⟨hi, hl⟩
  simp only at hi hl
  simp -implicitDefEqProofs only [go_sem, iA]
  by_cases hil : i < m
  · have hil2 : i + 1 ≤ m := hil
    have hcl2 : (List.take i cs ++ AV.raw (Value.string { data := #[115, 112, 111, 105, 108, 116] }) :: List.drop (i + 1) cs).length = m := by rw [setC1_len (by omega)]; exact hl
    simp -implicitDefEqProofs only [go_sem, dlt_true hil, not_false_eq_true, hget_skip, hset_skip, List.append_assoc, rowsH_names, hAS, hmA, hmS, hn1, hl, hil, hil2, Nat.div_one, wrap_up hil (by omega)]
    refine ⟨(i + 1, _), ⟨hil2, hcl2⟩, by simp only; omega, by simp -implicitDefEqProofs only [go_sem, iA], ?_⟩
    simp only [List.cons_append, List.nil_append]
    exact Has.refl _
  obtain rfl : m = i := by omega
  simp -implicitDefEqProofs only [go_sem, dlt_false hil, not_false_eq_true, hget_skip, hset_skip, List.append_assoc, rowsH_names, hAS, hmA, hmS, hn1, ownsC_length, Nat.div_one]
  refine AW.loopP tok (α := Nat × List AV × (Nat → List AV)) (fun a => slots 45 [(1, .ptr n1 0), (18, iA n), (19, iA a.1)]) (fun a => ([(nA, .row 9 1 vA (cs)), (nS, .row 98 1 vS (a.2.1))] ++ (rowsH n 101 2 ns vs (a.2.2) ++ [(n1, .cells 45 [.own nA vA, .own nS vS])]))) (fun a => a.1 ≤ n ∧ a.2.1.length = n ∧ (∀ j, a.1 ≤ j → j < n → a.2.1[j]? = some (.own (ns j) (vs j))) ∧ ∀ k, k < n → (a.2.2 k).length = (rc0 k).length) (fun a => n - a.1) (0, ownsC n ns vs, rc0) ⟨Nat.zero_le _, ownsC_length _ _ _, fun j _ hj => ownsC_get ns vs hj, fun _ _ => rfl⟩ (by simp -implicitDefEqProofs only [go_sem, iA]) ?_ ?_
  · simp only [List.cons_append, List.nil_append]
    exact Has.refl _
  rintro ⟨k, sc, rc⟩ ⟨hk, hsl, hsg, hlr⟩
  simp only at hk hsl hsg hlr
  simp -implicitDefEqProofs only [go_sem, iA]
  by_cases hkn : k < n
  rotate_left
  · obtain rfl : n = k := by omega
    simp -implicitDefEqProofs only [go_sem, dlt_false hkn, not_false_eq_true, hget_skip, hset_skip, List.append_assoc, rowsH_names, hAS, hmA, hmS, hn1]
    refine fnPost_ret tok ?_
    simp -implicitDefEqProofs only [go_sem, Tryz.results40]
    exact ⟨[], ⟨_, List.Perm.refl _⟩, rfl⟩
  have g1 := hsg k (Nat.le_refl _) hkn
  have g2 := hnA k hkn
  have g3 := hnS k hkn
  have g4 : ∀ (rc : Nat → List AV) (B : AHeap), hget (rowsH n 101 2 ns vs rc ++ B) (ns k) = some (.row 101 2 (vs k) (rc k)) := fun rc B => hget_rowsE hI hkn B
  have g5 : ∀ (rc : Nat → List AV) (v : Nat) (c : List AV) (B : AHeap), hset (rowsH n 101 2 ns vs rc ++ B) (ns k) (.row 101 2 v c) = rowsH n 101 2 ns (upd vs k v) (upd rc k c) ++ B := fun rc v c B => hset_rowsE hI hkn v c B
  have i4 : k + 1 ≤ n := hkn
  obtain ⟨w, hw, hb⟩ := hrl k hkn
  have hrk : (rc k).length = w * 2 := by rw [hlr k hkn, hw]
  have hw2 : w * 2 / 2 = w := by omega
  simp -implicitDefEqProofs only [go_sem, dlt_true hkn, not_false_eq_true, hget_skip, hset_skip, List.append_assoc, rowsH_names, hAS, hmA, hmS, hn1, hsl, hkn, g1, g2, g3, g4, i4, hrk, hw2, Nat.div_one]
  refine AW.loopP tok (α := Nat × (Nat → List AV)) (fun a => slots 45 [(1, .ptr n1 0), (3, iA k), (18, iA n), (19, iA k), (27, iA w), (28, iA a.1)]) (fun a => ([(nA, .row 9 1 vA (cs)), (nS, .row 98 1 vS (sc))] ++ (rowsH n 101 2 ns vs (a.2) ++ [(n1, .cells 45 [.own nA vA, .own nS vS])]))) (fun a => a.1 ≤ w ∧ ∀ k, k < n → (a.2 k).length = (rc0 k).length) (fun a => w - a.1) (0, rc) ⟨Nat.zero_le _, hlr⟩ (by simp -implicitDefEqProofs only [go_sem, iA]) ?_ ?_
  · simp only [List.cons_append, List.nil_append]
    exact Has.refl _
  rintro ⟨j, rd⟩ ⟨hj, hld⟩
  simp only at hj hld
  have hrk2 : (rd k).length = w * 2 := by rw [hld k hkn, hw]
  simp -implicitDefEqProofs only [go_sem, iA]
  by_cases hjw : j < w
  · have hj1 : j * 2 + 2 ≤ w * 2 := by omega
    have hj2 : j * 2 < w * 2 := by omega
    simp -implicitDefEqProofs only [go_sem, dlt_true hjw, not_false_eq_true, hget_skip, hset_skip, List.append_assoc, rowsH_names, hAS, hmA, hmS, hn1, hsl, hkn, g1, g2, g3, g4, i4, hjw, hj1, hj2, hw2, g5, hrk2, upd_self, Nat.div_one, wrap_up hjw (by omega)]
    refine ⟨(j + 1, upd rd k (List.take (j * 2) (rd k) ++ .raw (.int .i64 (-7)) :: .raw (.int .i64 (-7)) :: List.drop (j * 2 + 2) (rd k))), ⟨hjw, fun x hx => ?_⟩, by simp only; omega, by simp -implicitDefEqProofs only [go_sem, iA], ?_⟩
    · simp only
      by_cases e : x = k
      · subst e
        rw [upd_same, setC2_len (by omega), hrk2, hw]
      · rw [upd_ne e]; exact hld x hx
    · simp only [List.cons_append, List.nil_append]
      exact Has.refl _
  obtain rfl : w = j := by omega
  simp -implicitDefEqProofs only [go_sem, dlt_false hjw, not_false_eq_true, hget_skip, hset_skip, List.append_assoc, rowsH_names, hAS, hmA, hmS, hn1, hsl, hkn, g1, g2, g3, g4, i4, Nat.div_one, wrap_up hkn (by omega)]
  refine ⟨(k + 1, List.take k sc ++ .raw (.slice none 0 0) :: List.drop (k + 1) sc, rd), ⟨hkn, by simp only; rw [setC1_len (by omega)]; exact hsl, fun j h1 h2 => by simp only; rw [setC_at (by omega) h1]; exact hsg j (by simp only at h1; omega) h2, hld⟩, by simp only; omega, by simp -implicitDefEqProofs only [go_sem, iA], ?_⟩
  simp only [List.cons_append, List.nil_append]
  exact Has.refl _
end Go.Proofs.YtfininfcljdkbaaGreat
