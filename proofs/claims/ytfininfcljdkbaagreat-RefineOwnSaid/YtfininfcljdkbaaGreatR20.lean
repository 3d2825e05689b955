/- Refinement, part Uf: a proof is right; what satisfies the one satisfies the other (plain). -/
import Derived.Test.YtfininfcljdkbaaGreatR19
set_option linter.unusedSimpArgs false
set_option linter.unusedVariables false
namespace Go.Proofs.YtfininfcljdkbaaGreat
open Go Go.NS
section
variable {s t : Sp} {k : Nat}
section
variable {m : Sy}
theorem edge_off {x : Nat} {e : Int × Int} (h : e ∈ m.row x) : (m.off x).testBit e.1.toNat = true := by
  unfold Sy.off
  rw [offL_bit, List.any_eq_true]
  exact ⟨e, h, decide_eq_true rfl⟩
end
end
open Go Go.NS
theorem offL_nil : offL [] = 0 := rfl
theorem off_or {l : List (Int × Int)} {i a : Nat} (h : i < l.length) (ha : l[i].1 = (a : Int)) (h1 : offL (l.take i) < 2 ^ 63) (h2 : a ≤ 8) : bit2 .or .i64 ((offL (l.take i) : Nat) : Int) ((2 ^ a : Nat) : Int) = ((offL (l.take (i + 1)) : Nat) : Int) := by
  have h3 : 2 ^ a < 2 ^ 63 := Nat.pow_lt_pow_right (by omega) (by omega)
  rw [bit2_or _ _ h1 h3, List.take_succ_eq_append_getElem h, offL_snoc, ha, Int.toNat_natCast]
theorem off_small {k : Nat} {l : List (Int × Int)} (hr : ∀ e ∈ l, 0 ≤ e.1 ∧ e.1 < k ∧ 0 ≤ e.2) (hk8 : k ≤ 8) (i : Nat) : offL (l.take i) < 2 ^ 63 :=
  Nat.lt_of_lt_of_le (offL_lt (k := k) fun e he => ⟨(hr e (List.mem_of_mem_take he)).1, (hr e (List.mem_of_mem_take he)).2.1⟩) (Nat.pow_le_pow_right (by omega) (by omega))
set_option maxHeartbeats 1000000 in
theorem OfferR_ok (m : Sy) {k : Nat} (hm : m.Val k) (x : Nat) (hx : x < m.sts.length) : Fp Tryz.prog 58 [m.av, iA x] (iA (m.off x)) := by
  have hk8 := hm.k8
  have hfew := hm.few
  have hle := hm.lens _ (List.getElem_mem hx)
  have hrng := hm.rng _ (List.getElem_mem hx)
  obtain ⟨l, hl⟩ : ∃ l, l = m.sts[x] := ⟨_, rfl⟩
  rw [← hl] at hle hrng
  have e0 : m.off x = offL l := by rw [Sy.off, Sy.row_eq hx, hl]
  have g1 : (m.sts.map pairsA)[x]? = some (pairsA l) := by simp [hx, hl]
  have hblt := off_small (l := l) (k := k) (fun e he => ⟨(hrng e he).1, (hrng e he).2.1, (hrng e he).2.2.1⟩) hk8
  refine Fp.of_vc tok Tryz.func58 rfl (by decide) ?_
  simp -implicitDefEqProofs only [go_sem, Tryz.ntmps58, Sy.av, Sy.cells, iA]
  refine newK_intro fun n2 hn2 => ?_
  try simp -implicitDefEqProofs only [hset, frt] at hn2
  simp -implicitDefEqProofs only [go_sem, hx, g1, List.length_map, Nat.div_one, pairsA, pc_div]
  refine AW.loopG tok (α := Nat) (fun i => slots 25 [(12, .imm 2 (pc l)), (13, iA l.length), (14, iA i), (5, iA (offL (l.take i)))]) (fun _ => [])
    (fun i => i ≤ l.length) (fun i => l.length - i) 0 (Nat.zero_le _) (by simp -implicitDefEqProofs only [go_sem, iA, List.take_zero, offL_nil, Int.natCast_zero]) (List.nil_sublist _) ?_
  intro i hi
  simp -implicitDefEqProofs only [go_sem, iA]
  by_cases hil : i < l.length
  rotate_left
  · obtain rfl : i = l.length := by omega
    simp -implicitDefEqProofs only [go_sem, dlt_false hil, List.take_length]
    refine fnPost_ret tok ?_
    simp -implicitDefEqProofs only [go_sem, Tryz.results58, e0, iA, List.take_length]
  have eg := pc_get l i hil
  have e4 : i * 2 + 2 ≤ (pc l).length := by rw [pc_length]; omega
  have e6 : i * 2 < (pc l).length := by omega
  obtain ⟨r1, r2, _, _⟩ := hrng _ (List.getElem_mem hil)
  obtain ⟨a, ha⟩ : ∃ a : Nat, l[i].1 = (a : Int) := ⟨l[i].1.toNat, by omega⟩
  have hor := off_or hil ha (hblt i) (by omega)
  have hneg : ¬ (a : Int) < 0 := by omega
  rw [ha] at eg
  simp -implicitDefEqProofs only [go_sem, dlt_true hil, hil, eg, e4, e6, pc_div, iA]
  refine newK_intro fun n7 hn7 => ?_
  try simp -implicitDefEqProofs only [hset, frt] at hn7
  simp -implicitDefEqProofs only [go_sem, hn7, hneg, shl_one a (by omega), hor, wrap_up hil (by omega)]
  exact ⟨i + 1, hil, by omega, by simp -implicitDefEqProofs only [go_sem], List.nil_sublist _⟩
theorem AcceptsR_ok (s : Sp) {k : Nat} (hs : s.Val k) (x v : Nat) (hx : x < s.sts.length) : Fp Tryz.prog 161 [s.av, iA x, iA v] (abool (decide (v ∈ s.acc x))) := by
  have hal := hs.acc_len hx
  have f0 := stC_get0 s.sts x hx
  rw [hs.acc_eq hx] at f0
  obtain ⟨g1, g2, g3⟩ := stC_in hx
  have d : decide ((x : Int) ≥ 0) = true := decide_eq_true (by omega)
  have e : decide (((v : Nat) : Int) ∈ natsI (s.acc x)) = decide (v ∈ s.acc x) := decide_eq_decide.2 mem_natsI
  refine Fp.of_vc tok Tryz.func161 rfl (by decide) ?_
  simp -implicitDefEqProofs only [go_sem, Tryz.ntmps161, Sp.av, Sp.cells, iA]
  refine newK_intro fun n3 hn3 => ?_
  try simp -implicitDefEqProofs only [hset, frt] at hn3
  simp -implicitDefEqProofs only [go_sem, d, hx, f0, g1, g2, g3, stC_div]
  refine opK_pure (InL_ok (natsI (s.acc x)) (v : Nat) (by rw [natsI_length]; omega)) rfl (Sub.of_eq (by first | rfl | simp -implicitDefEqProofs only [go_sem])) ?_
  simp -implicitDefEqProofs only [go_sem, e]
  refine fnPost_ret tok ?_
  simp -implicitDefEqProofs only [go_sem, Tryz.results161]
theorem goodY_ok (m : Sy) (s : Sp) {k : Nat} (hm : m.Val k) (hs : s.Val k) (p : Pr) (hp : InP m.sts.length s.sts.length p) : Fp Tryz.prog 138 [m.av, s.av, pA p] (abool (okY m s p)) := by
  have h1 := hp.1
  have h2 := hp.2
  refine Fp.of_vc tok Tryz.func138 rfl (by decide) ?_
  simp -implicitDefEqProofs only [go_sem, Tryz.ntmps138, Sy.av, Sy.cells, Sp.av, Sp.cells, pA, iA]
  refine newK_intro fun a3 ha3 => ?_
  try simp -implicitDefEqProofs only [hset, frt] at ha3
  simp -implicitDefEqProofs only [go_sem]
  refine newK_intro fun a4 ha4 => ?_
  try simp -implicitDefEqProofs only [hset, frt] at ha4
  simp -implicitDefEqProofs only [go_sem, ha4]
  refine newK_intro fun a5 ha5 => ?_
  try simp -implicitDefEqProofs only [hset, frt] at ha5
  simp -implicitDefEqProofs only [go_sem, ha4, ha5]
  refine AW.draw tok hmix ⟨[], [], [], false⟩ (by kernel_rfl) (Has.of_sub (List.nil_sublist _)) ?_
  simp -implicitDefEqProofs only [go_sem, ha4, ha5]
  refine opK_pure (OfferR_ok m hm p.1 h1) rfl (Sub.of_eq (by first | rfl | simp -implicitDefEqProofs only [go_sem])) ?_
  simp -implicitDefEqProofs only [go_sem, ha4, ha5, iA]
  refine opK_pure (AcceptsR_ok s hs p.2 (m.off p.1) h2) rfl (Sub.of_eq (by first | rfl | simp -implicitDefEqProofs only [go_sem])) ?_
  simp -implicitDefEqProofs only [go_sem]
  refine fnPost_ret tok ?_
  simp -implicitDefEqProofs only [go_sem, Tryz.results138, okY]
open Go Go.NS
set_option maxRecDepth 4000 in
set_option maxHeartbeats 8000000 in
theorem ReachY_ok (m : Sy) (s : Sp) {k : Nat} (hm : m.Val k) (hn : s.Val k) : Fp Tryz.prog 110 [m.av, s.av] (.tup [.junk, .junk, abool (satB m s)]) := by
  have hk8 := hm.k8
  have hfew := hm.few
  have hfew2 := hn.few
  have hpos := hm.pos
  have hpos2 := hn.pos
  have hmul : m.sts.length * s.sts.length ≤ 5000 * 500 := Nat.mul_le_mul hfew hfew2
  obtain ⟨nf, hnf⟩ : ∃ nf, m.sts.length = nf := ⟨_, rfl⟩
  obtain ⟨ng, hng⟩ : ∃ ng, s.sts.length = ng := ⟨_, rfl⟩
  refine Fp.of_vc tok Tryz.func110 rfl (by decide) ?_
  simp -implicitDefEqProofs only [go_sem, Tryz.ntmps110, Sy.av, Sy.cells, Sp.av, Sp.cells]
  refine newK_intro fun n2 hn2 => ?_
  try simp -implicitDefEqProofs only [hset, rowsH_names, frt] at hn2
  simp -implicitDefEqProofs only [go_sem]
  refine newK_intro fun n3 hn3 => ?_
  try simp -implicitDefEqProofs only [hset, rowsH_names, frt] at hn3
  simp -implicitDefEqProofs only [go_sem, hn3, not_false_eq_true, hget_skip, hset_skip, List.append_assoc, rowsH_names, hnf, hng, List.length_map, Nat.div_one]
  refine opK_make tok (n := nf) (zc := [.raw (.slice none 0 0)]) rfl rfl T169 rfl T105 (by decide) rfl rfl (by simp only; omega) (by omega) fun nO vO hnO => ?_
  try simp -implicitDefEqProofs only [hset, rowsH_names, frt] at hnO
  simp -implicitDefEqProofs only [go_sem, hn3, not_false_eq_true, hget_skip, hset_skip, List.append_assoc, rowsH_names, hnf, hng, hnO, zrep_one, ← outC_zero nf (fun _ => 0) (fun _ => 0), outC_length]
  refine AW.loopP tok (α := Nat × (Nat → Nat) × (Nat → Nat)) (fun a => slots 136 [(2, .ptr n2 0), (3, .ptr n3 0), (7, .own nO vO), (26, iA nf), (27, iA a.1)]) (fun a => [(n2, .cells 45 [strsA m.acts, .imm 1 (m.sts.map pairsA)]), (n3, .cells 25 [strsA s.acts, .imm 2 (stC s.sts)]), (nO, .row 105 1 vO (outC nf a.1 a.2.1 a.2.2))] ++ rowsH a.1 4 1 a.2.1 a.2.2 (mxR ng (fun _ _ => .raw (.bool false))))
    (fun a => a.1 ≤ nf ∧ Inj a.1 a.2.1 ∧ (∀ x, x < a.1 → ¬ a.2.1 x = n2) ∧ (∀ x, x < a.1 → ¬ a.2.1 x = n3) ∧ (∀ x, x < a.1 → ¬ a.2.1 x = nO)) (fun a => nf - a.1) (0, (fun _ => 0), (fun _ => 0)) ⟨Nat.zero_le _, inj_zero _, fun x h => absurd h (Nat.not_lt_zero x), fun x h => absurd h (Nat.not_lt_zero x), fun x h => absurd h (Nat.not_lt_zero x)⟩ (by simp -implicitDefEqProofs only [go_sem, iA]) (by rw [rowsH_zero, List.append_nil]; exact Has.refl _) ?_
  rintro ⟨i, ns, vs⟩ ⟨hi, hI, hne2, hne3, hneO⟩
  simp only at hi hI hne2 hne3 hneO
  simp -implicitDefEqProofs only [go_sem, not_false_eq_true, hget_skip, hset_skip, List.append_assoc, rowsH_names, hnf, hng, hn3, hnO, outC_length, iA]
  by_cases hin : i < nf
  · simp -implicitDefEqProofs only [go_sem, dlt_true hin, not_false_eq_true, hget_skip, hset_skip, List.append_assoc, rowsH_names, hnf, hng, hn3, hnO, stC_div]
    refine opK_make tok (n := ng) (zc := [.raw (.bool false)]) rfl rfl T105 rfl T4 (by decide) rfl rfl (by simp only; omega) (by omega) fun nR vR hnR => ?_
    try simp -implicitDefEqProofs only [hset, rowsH_names, frt] at hnR
    have hin1 : i + 1 ≤ nf := hin
    simp -implicitDefEqProofs only [go_sem, not_false_eq_true, hget_skip, hset_skip, List.append_assoc, rowsH_names, hnf, hng, hn3, hnO, hnR, zrep_one, outC_length, hin, hin1, outC_set ns vs nR vR hin, wrap_up hin (by omega)]
    refine ⟨(i + 1, upd ns i nR, upd vs i vR), ⟨hin, inj_snoc hI (by simp only [hnR, not_false_eq_true]), ne_snoc hne2 (by simp only [hnR, not_false_eq_true]), ne_snoc hne3 (by simp only [hnR, not_false_eq_true]), ne_snoc hneO (by simp only [hnR, not_false_eq_true])⟩, by simp only; omega, by simp -implicitDefEqProofs only [go_sem], ?_⟩
    rw [mxR_const ng _ i, rowsH_addM]
    exact Has.refl _
  obtain rfl : i = nf := by omega
  simp -implicitDefEqProofs only [go_sem, not_false_eq_true, hget_skip, hset_skip, List.append_assoc, rowsH_names, hnf, hng, hn3, hnO, dlt_false hin]
  have h0f : 0 < i := by omega
  have h0g : 0 < ng := by omega
  have h1f : 1 ≤ i := by omega
  have h1g : 1 ≤ ng := by omega
  have hm0 : upd2 (fun _ _ => AV.raw (.bool false)) 0 0 (.raw (.bool true)) = seenF [(((0, 0), (-1, 0)) : It)] := by
    have := seenF_snoc [] (((0, 0), (-1, 0)) : It)
    rw [← List.nil_append [(((0, 0), (-1, 0)) : It)], ← this]
    congr 1
  simp -implicitDefEqProofs only [go_sem, not_false_eq_true, hget_skip, hset_skip, List.append_assoc, rowsH_names, hnf, hng, hn3, hnO, hget_rowsE hI, hget_rows hI, hset_rowsE hI, hset_rows hI, outC_get, outC_length, mxR_get, mxR_length, mxR_set, mxR_set0, hne2, hne3, hneO, stC_div, h0f, h0g, h1f, h1g, hm0]
  refine opK_litOwn tok rfl T40 rfl T80 (by decide) (by simp -implicitDefEqProofs only [go_sem, zrep, List.flatten_cons, List.flatten_nil]; rfl) fun nX vX hnX => ?_
  try simp -implicitDefEqProofs only [hset, rowsH_names, frt] at hnX
  simp -implicitDefEqProofs only [go_sem, not_false_eq_true, hget_skip, hset_skip, List.append_assoc, rowsH_names, hnf, hng, hn3, hnO, hget_rowsE hI, hget_rows hI, hset_rowsE hI, hset_rows hI, outC_get, outC_length, mxR_get, mxR_length, mxR_set, mxR_set0, hne2, hne3, hneO, stC_div]
  obtain ⟨N, hN⟩ : ∃ N, N = i * ng := ⟨_, rfl⟩
  obtain ⟨L, hL⟩ : ∃ L, L = relY m s := ⟨_, rfl⟩
  have hbL : bfs (gS (suY m s)) (N + 1) 0 [(((0, 0), (-1, 0)) : It)] = L := by rw [hL, hN, ← hnf, ← hng]; rfl
  have hbrk : ∀ j, ∀ h : j < L.length, okY m s L[j].1 = false → satB m s = false := fun j h hb => by
    cases hc : satB m s with
    | false => rfl
    | true =>
      unfold satB at hc
      rw [← hL] at hc
      have := gOk_all hc _ (List.getElem_mem h)
      rw [hb] at this; cases this
  have hnone : (∀ j, ∀ h : j < L.length, okY m s L[j].1 = true) → satB m s = true := fun hall => by
    unfold satB
    rw [← hL]
    exact gOk_of fun x hx => by
      obtain ⟨j, hj, rfl⟩ := List.getElem_of_mem hx
      exact hall j hj
  have hlen : ∀ q : List It, (q.map (·.1)).Nodup → (∀ y ∈ q, InP m.sts.length s.sts.length y.1) → q.length ≤ N := fun q h1 h2 => by rw [hN, ← hnf, ← hng]; exact in_length h1 h2
  have hNb : N ≤ 5000 * 500 := by rw [hN, ← hnf, ← hng]; exact hmul
  have hx0 : (¬nX = n2 ∧ ¬nX = n3 ∧ ¬nX = nO) ∧ ∀ x, x < i → ¬ ns x = nX := ⟨by simp only [hnX, not_false_eq_true, and_self], names_ne (by simp only [hnX, not_false_eq_true])⟩
  refine AW.loopP tok (α := Nat × Nat × List It × Nat × Nat) (fun a => slots 136 [(2, .ptr n2 0), (3, .ptr n3 0), (7, .own nO vO), (9, .own a.2.2.2.1 a.2.2.2.2), (10, iA a.1)])
    (fun a => [(n2, .cells 45 [strsA m.acts, .imm 1 (m.sts.map pairsA)]), (n3, .cells 25 [strsA s.acts, .imm 2 (stC s.sts)]), (nO, .row 105 1 vO (outC i i ns vs)), (a.2.2.2.1, .row 80 2 a.2.2.2.2 (qc (a.2.2.1.drop a.2.1)))] ++ rowsH i 4 1 ns vs (mxR ng (seenF a.2.2.1)))
    (fun a => a.2.1 ≤ a.2.2.1.length ∧ a.1 ≤ a.2.1 ∧ bfs (gS (suY m s)) (N + 1 - a.2.1) a.2.1 a.2.2.1 = L ∧ (a.2.2.1.map (·.1)).Nodup ∧ (∀ y ∈ a.2.2.1, InP m.sts.length s.sts.length y.1) ∧ (∀ j, ∀ h : j < L.length, j < a.2.1 → okY m s L[j].1 = true) ∧
      (¬a.2.2.2.1 = n2 ∧ ¬a.2.2.2.1 = n3 ∧ ¬a.2.2.2.1 = nO) ∧ ∀ x, x < i → ¬ ns x = a.2.2.2.1)
    (fun a => N + 1 - a.2.1) (0, 0, [(((0, 0), (-1, 0)) : It)], nX, vX) ⟨Nat.zero_le _, Nat.le_refl _, hbL, by simp, fun y hy => by simp at hy; subst hy; exact inY0 hm hn, fun j h hj => absurd hj (Nat.not_lt_zero j), hx0⟩ (by simp -implicitDefEqProofs only [go_sem, iA]) (has_end [(n2, .cells 45 [strsA m.acts, .imm 1 (m.sts.map pairsA)]), (n3, .cells 25 [strsA s.acts, .imm 2 (stC s.sts)]), (nO, .row 105 1 vO (outC i i ns vs))] (rowsH i 4 1 ns vs (mxR ng (seenF [(((0, 0), (-1, 0)) : It)]))) [(nX, .row 80 2 vX (qc [(((0, 0), (-1, 0)) : It)]))]) ?_
  clear hx0 hnX hbL hm0
  rintro ⟨d, lo, q, nX, vX⟩ ⟨hlo, hdl, hbfs, hq, hin, hall, hnX, hneX⟩
  simp only at hlo hdl hbfs hq hin hall hnX hneX
  have hql := hlen q hq hin
  have hqd : (qc (q.drop lo)).length / 2 = q.length - lo := by rw [qc_div, List.length_drop]
  simp -implicitDefEqProofs only [go_sem, not_false_eq_true, hget_skip, hset_skip, List.append_assoc, rowsH_names, hnf, hng, hn3, hnO, hget_rowsE hI, hget_rows hI, hset_rowsE hI, hset_rows hI, outC_get, outC_length, mxR_get, mxR_length, mxR_set, mxR_set0, hne2, hne3, hneO, stC_div, hnX, hneX, qc_div, hqd, iA]
  by_cases hfin : lo < q.length
  rotate_left
  · have e0 : q.length - lo = 0 := by omega
    rw [bfs_stop _ (by omega)] at hbfs
    subst hbfs
    have e := hnone fun j h => hall j h (by omega)
    have e1 : decide ((0 : Int) > 0) = false := by decide
    simp -implicitDefEqProofs only [go_sem, e0, e1, not_false_eq_true, hget_skip, hset_skip, List.append_assoc, rowsH_names, hnf, hng, hn3, hnO, hget_rowsE hI, hget_rows hI, hset_rowsE hI, hset_rows hI, outC_get, outC_length, mxR_get, mxR_length, mxR_set, mxR_set0, hne2, hne3, hneO, stC_div, hnX, hneX, qc_div]
    refine AW.adopt 17 80 (sz := 2) (by decide) rfl fun nP hnP => ?_
    try simp -implicitDefEqProofs only [hset, rowsH_names, frt] at hnP
    have hneP : ∀ x, x < i → ¬ ns x = nP := names_ne (by simp only [hnP, not_false_eq_true])
    simp -implicitDefEqProofs only [go_sem, not_false_eq_true, hget_skip, hset_skip, List.append_assoc, rowsH_names, hnf, hng, hn3, hnO, hget_rowsE hI, hget_rows hI, hset_rowsE hI, hset_rows hI, outC_get, outC_length, mxR_get, mxR_length, mxR_set, mxR_set0, hne2, hne3, hneO, stC_div, hnP, hneP, pc_div]
    refine AW.loopP tok (α := Nat × List (Int × Int) × Nat) (fun a => slots 136 [(7, .own nO vO), (17, .own nP a.2.2), (112, iA i), (113, iA a.1)])
      (fun a => [(nO, .row 105 1 vO (outC i i ns vs)), (nP, .row 80 2 a.2.2 (pc a.2.1))] ++ rowsH i 4 1 ns vs (mxR ng (seenF q))) (fun a => a.1 ≤ i ∧ a.2.1.length ≤ a.1 * ng) (fun a => i - a.1) (0, [], 0) ⟨Nat.zero_le _, Nat.zero_le _⟩ (by simp -implicitDefEqProofs only [go_sem, iA]) ⟨[(n2, .cells 45 [strsA m.acts, .imm 1 (m.sts.map pairsA)]), (n3, .cells 25 [strsA s.acts, .imm 2 (stC s.sts)]), (nX, .row 80 2 vX (qc (q.drop lo)))], by
        classical
        simp only [pc_nil]
        exact List.perm_iff_count.2 fun z => by simp only [List.count_append, List.count_cons, List.count_nil, List.cons_append, List.nil_append]; omega⟩ ?_
    rintro ⟨x, l, vP⟩ ⟨hx, hll⟩
    simp only at hx hll
    simp -implicitDefEqProofs only [go_sem, not_false_eq_true, hget_skip, hset_skip, List.append_assoc, rowsH_names, hnf, hng, hn3, hnO, hget_rowsE hI, hget_rows hI, hset_rowsE hI, hset_rows hI, outC_get, outC_length, mxR_get, mxR_length, mxR_set, mxR_set0, hne2, hne3, hneO, stC_div, hnP, hneP, pc_div, iA]
    by_cases hxi : x < i
    rotate_left
    · simp -implicitDefEqProofs only [go_sem, dlt_false hxi, not_false_eq_true, hget_skip, hset_skip, List.append_assoc, rowsH_names, hnf, hng, hn3, hnO, hget_rowsE hI, hget_rows hI, hset_rowsE hI, hset_rows hI, outC_get, outC_length, mxR_get, mxR_length, mxR_set, mxR_set0, hne2, hne3, hneO, stC_div, hnP, hneP, pc_div]
      refine fnPost_retLe tok ?_
      simp -implicitDefEqProofs only [go_sem, Tryz.results110, not_false_eq_true, hget_skip, hset_skip, List.append_assoc, rowsH_names, hnf, hng, hn3, hnO, hget_rowsE hI, hget_rows hI, hset_rowsE hI, hset_rows hI, outC_get, outC_length, mxR_get, mxR_length, mxR_set, mxR_set0, hne2, hne3, hneO, stC_div, hnP, hneP, pc_div, e]
      exact ⟨_, Le.tup (Les.cons (Le.junk _) (Les.cons (Le.junk _) (Les.cons (Le.refl _) Les.nil))), rfl⟩
    have hx1 : x + 1 ≤ i := hxi
    have hb1 : (x + 1) * ng ≤ i * ng := Nat.mul_le_mul_right _ hx1
    have hb2 : (x + 1) * ng = x * ng + ng := Nat.succ_mul x ng
    simp -implicitDefEqProofs only [go_sem, dlt_true hxi, not_false_eq_true, hget_skip, hset_skip, List.append_assoc, rowsH_names, hnf, hng, hn3, hnO, hget_rowsE hI, hget_rows hI, hset_rowsE hI, hset_rows hI, outC_get, outC_length, mxR_get, mxR_length, mxR_set, mxR_set0, hne2, hne3, hneO, stC_div, hnP, hneP, pc_div, hxi, hx1]
    refine AW.loopP tok (α := Nat × List (Int × Int) × Nat) (fun a => slots 136 [(7, .own nO vO), (17, .own nP a.2.2), (18, iA x), (112, iA i), (113, iA x), (119, .own (ns x) (vs x)), (120, iA ng), (121, iA a.1)])
      (fun a => [(nO, .row 105 1 vO (outC i i ns vs)), (nP, .row 80 2 a.2.2 (pc a.2.1))] ++ rowsH i 4 1 ns vs (mxR ng (seenF q))) (fun a => a.1 ≤ ng ∧ a.2.1.length ≤ x * ng + a.1) (fun a => ng - a.1) (0, l, vP) ⟨Nat.zero_le _, hll⟩ (by simp -implicitDefEqProofs only [go_sem, iA, not_false_eq_true, hget_skip, hset_skip, List.append_assoc, rowsH_names, hnf, hng, hn3, hnO, hget_rowsE hI, hget_rows hI, hset_rowsE hI, hset_rows hI, outC_get, outC_length, mxR_get, mxR_length, mxR_set, mxR_set0, hne2, hne3, hneO, stC_div, hnP, hneP, pc_div]) (Has.refl _) ?_
    rintro ⟨y, l', v'⟩ ⟨hy, hll'⟩
    simp only at hy hll'
    simp -implicitDefEqProofs only [go_sem, not_false_eq_true, hget_skip, hset_skip, List.append_assoc, rowsH_names, hnf, hng, hn3, hnO, hget_rowsE hI, hget_rows hI, hset_rowsE hI, hset_rows hI, outC_get, outC_length, mxR_get, mxR_length, mxR_set, mxR_set0, hne2, hne3, hneO, stC_div, hnP, hneP, pc_div, iA]
    by_cases hyg : y < ng
    rotate_left
    · obtain rfl : y = ng := by omega
      simp -implicitDefEqProofs only [go_sem, dlt_false hyg, wrap_up hxi (by omega)]
      refine ⟨(x + 1, l', v'), ⟨hx1, by simp only; omega⟩, by simp only; omega, by simp -implicitDefEqProofs only [go_sem], Has.refl _⟩
    have hy1 : y + 1 ≤ ng := hyg
    simp -implicitDefEqProofs only [go_sem, dlt_true hyg, not_false_eq_true, hget_skip, hset_skip, List.append_assoc, rowsH_names, hnf, hng, hn3, hnO, hget_rowsE hI, hget_rows hI, hset_rowsE hI, hset_rows hI, outC_get, outC_length, mxR_get, mxR_length, mxR_set, mxR_set0, hne2, hne3, hneO, stC_div, hnP, hneP, pc_div, hxi, hx1, hyg, hy1, seenF]
    by_cases hs : (x, y) ∈ q.map (·.1)
    · simp -implicitDefEqProofs only [go_sem, hs, decide_true, not_false_eq_true, hget_skip, hset_skip, List.append_assoc, rowsH_names, hnf, hng, hn3, hnO, hget_rowsE hI, hget_rows hI, hset_rowsE hI, hset_rows hI, outC_get, outC_length, mxR_get, mxR_length, mxR_set, mxR_set0, hne2, hne3, hneO, stC_div, hnP, hneP, pc_div]
      refine opK_lit tok T40 rfl T80 (by decide) (by simp -implicitDefEqProofs only [go_sem, zrep, List.flatten_cons, List.flatten_nil]; rfl) ?_
      simp -implicitDefEqProofs only [go_sem, not_false_eq_true, hget_skip, hset_skip, List.append_assoc, rowsH_names, hnf, hng, hn3, hnO, hget_rowsE hI, hget_rows hI, hset_rowsE hI, hset_rows hI, outC_get, outC_length, mxR_get, mxR_length, mxR_set, mxR_set0, hne2, hne3, hneO, stC_div, hnP, hneP, pc_div]
      refine opK_append tok rfl rfl (by simp -implicitDefEqProofs only [go_sem, not_false_eq_true, hget_skip, hset_skip, List.append_assoc, rowsH_names, hnf, hng, hn3, hnO, hget_rowsE hI, hget_rows hI, hset_rowsE hI, hset_rows hI, outC_get, outC_length, mxR_get, mxR_length, mxR_set, mxR_set0, hne2, hne3, hneO, stC_div, hnP, hneP, pc_div]; rfl) rfl T40 rfl T80 rfl (by decide) (by simp only [pc_div, List.length_cons, List.length_nil]; omega) fun v3 => ?_
      have g3 : pc l' ++ [.raw (.int .i64 (x : Int)), .raw (.int .i64 (y : Int))] = pc (l' ++ [((x : Int), (y : Int))]) := by rw [pc_append]; rfl
      simp -implicitDefEqProofs only [go_sem, not_false_eq_true, hget_skip, hset_skip, List.append_assoc, rowsH_names, hnf, hng, hn3, hnO, hget_rowsE hI, hget_rows hI, hset_rowsE hI, hset_rows hI, outC_get, outC_length, mxR_get, mxR_length, mxR_set, mxR_set0, hne2, hne3, hneO, stC_div, hnP, hneP, pc_div, g3, wrap_up hyg (by omega)]
      refine ⟨(y + 1, l' ++ [((x : Int), (y : Int))], v3), ⟨hyg, by simp only [List.length_append, List.length_cons, List.length_nil]; omega⟩, by simp only; omega, by simp -implicitDefEqProofs only [go_sem], Has.refl _⟩
    · simp -implicitDefEqProofs only [go_sem, hs, decide_false, wrap_up hyg (by omega)]
      refine ⟨(y + 1, l', v'), ⟨hyg, by simp only; omega⟩, by simp only; omega, by simp -implicitDefEqProofs only [go_sem], Has.refl _⟩
  have e1 : decide (((q.length - lo : Nat) : Int) > 0) = true := by simp; omega
  simp -implicitDefEqProofs only [go_sem, e1, not_false_eq_true, hget_skip, hset_skip, List.append_assoc, rowsH_names, hnf, hng, hn3, hnO, hget_rowsE hI, hget_rows hI, hset_rowsE hI, hset_rows hI, outC_get, outC_length, mxR_get, mxR_length, mxR_set, mxR_set0, hne2, hne3, hneO, stC_div, hnX, hneX, qc_div, hqd]
  refine AW.adopt 11 80 (sz := 2) (by decide) rfl fun nY hnY => ?_
  try simp -implicitDefEqProofs only [hset, rowsH_names, frt] at hnY
  obtain ⟨hi', hhi⟩ : ∃ hi', hi' = q.length := ⟨_, rfl⟩
  have hneY : ∀ x, x < i → ¬ ns x = nY := names_ne (by simp only [hnY, not_false_eq_true])
  have hrow0 : qc (q.drop hi') = [] := by rw [hhi, List.drop_of_length_le (Nat.le_refl _)]; rfl
  refine AW.loopP tok (α := Nat × List It × Nat) (fun a => slots 136 [(2, .ptr n2 0), (3, .ptr n3 0), (7, .own nO vO), (10, iA d), (11, .own nY a.2.2), (49, .own nX vX), (50, iA (hi' - lo : Nat)), (51, iA a.1)])
    (fun a => [(n2, .cells 45 [strsA m.acts, .imm 1 (m.sts.map pairsA)]), (n3, .cells 25 [strsA s.acts, .imm 2 (stC s.sts)]), (nO, .row 105 1 vO (outC i i ns vs)), (nX, .row 80 2 vX (qc (q.drop lo))), (nY, .row 80 2 a.2.2 (qc (a.2.1.drop hi')))] ++ rowsH i 4 1 ns vs (mxR ng (seenF a.2.1)))
    (fun a => a.1 ≤ hi' - lo ∧ bfs (gS (suY m s)) (N + 1 - (lo + a.1)) (lo + a.1) a.2.1 = L ∧ (a.2.1.map (·.1)).Nodup ∧ (∀ y ∈ a.2.1, InP m.sts.length s.sts.length y.1) ∧ q <+: a.2.1 ∧ (∀ j, ∀ h : j < L.length, j < lo + a.1 → okY m s L[j].1 = true))
    (fun a => hi' - lo - a.1) (0, q, 0) ⟨Nat.zero_le _, hbfs, hq, hin, List.prefix_refl _, hall⟩ (by simp -implicitDefEqProofs only [go_sem, iA, hhi]) (by
      have := has_end [(n2, .cells 45 [strsA m.acts, .imm 1 (m.sts.map pairsA)]), (n3, .cells 25 [strsA s.acts, .imm 2 (stC s.sts)]), (nO, .row 105 1 vO (outC i i ns vs)), (nX, .row 80 2 vX (qc (q.drop lo)))] (rowsH i 4 1 ns vs (mxR ng (seenF q))) [(nY, .row 80 2 0 [])]
      simpa -implicitDefEqProofs only [hrow0, List.cons_append, List.nil_append, List.append_assoc] using this) ?_
  rintro ⟨j, q', vY⟩ ⟨hj, hbfs', hq', hin', hpre, hall'⟩
  simp only at hj hbfs' hq' hin' hpre hall'
  have hql' := hlen q' hq' hin'
  have hple := hpre.length_le
  simp -implicitDefEqProofs only [go_sem, not_false_eq_true, hget_skip, hset_skip, List.append_assoc, rowsH_names, hnf, hng, hn3, hnO, hget_rowsE hI, hget_rows hI, hset_rowsE hI, hset_rows hI, outC_get, outC_length, mxR_get, mxR_length, mxR_set, mxR_set0, hne2, hne3, hneO, stC_div, hnX, hneX, hnY, hneY, iA]
  by_cases hjl : j < hi' - lo
  rotate_left
  · have hlj : lo + j = hi' := by omega
    rw [hlj] at hbfs' hall'
    have hwd : IntKind.i64.wrap ((d : Int) + 1) = ((d + 1 : Nat) : Int) := by rw [IntWalk.i64_in _ (by omega)]; omega
    simp -implicitDefEqProofs only [go_sem, dlt_false hjl, hwd]
    refine ⟨(d + 1, hi', q', nY, vY), ⟨by simp only; omega, by simp only; omega, hbfs', hq', (by rw [← hnf, ← hng]; exact hin'), hall', ⟨by simp only [hnY, not_false_eq_true, and_self], hneY⟩⟩, by simp only; omega, by simp -implicitDefEqProofs only [go_sem], ?_⟩
    have := has_drop [(n2, .cells 45 [strsA m.acts, .imm 1 (m.sts.map pairsA)]), (n3, .cells 25 [strsA s.acts, .imm 2 (stC s.sts)]), (nO, .row 105 1 vO (outC i i ns vs))] [(nX, .row 80 2 vX (qc (q.drop lo)))] ([(nY, .row 80 2 vY (qc (q'.drop hi')))] ++ rowsH i 4 1 ns vs (mxR ng (seenF q')))
    simpa -implicitDefEqProofs only [List.cons_append, List.nil_append] using this
  have hk : lo + j < q.length := by omega
  obtain ⟨p, hpe⟩ : ∃ p : Pr, p = q[lo + j].1 := ⟨_, rfl⟩
  have hp : InP m.sts.length s.sts.length p := hpe ▸ hin _ (List.getElem_mem hk)
  have hx := hp.1
  have hy := hp.2
  have hry := hn.row _ (List.getElem_mem hy)
  have f2 := stC_get1 s.sts p.2 hy
  obtain ⟨g4, g5, g6⟩ := stC_in hy
  have hxi : p.1 < i := by rw [← hnf]; exact hx
  have hyi : p.2 < ng := by rw [← hng]; exact hy
  have hk' : lo + j < q'.length := by omega
  have hqk : q'[lo + j].1 = p := by rw [hpe, hpre.getElem hk]
  have hLp : q' <+: L := hbfs' ▸ bfs_prefix _ _ _ _
  have hkL : lo + j < L.length := Nat.lt_of_lt_of_le hk' hLp.length_le
  have hLk : L[lo + j].1 = p := by rw [← hLp.getElem hk', hqk]
  have hjd : j < (q.drop lo).length := by rw [List.length_drop]; omega
  have eg : ((qc (q.drop lo)).drop (j * 2)).take 2 = [.raw (.int .i64 p.1), .raw (.int .i64 p.2)] := by
    rw [qc_get hjd, List.getElem_drop, hpe]; rfl
  have el : j * 2 + 2 ≤ (qc (q.drop lo)).length := by rw [qc_length]; omega
  have el2 : j * 2 < (qc (q.drop lo)).length := by omega
  obtain ⟨l, hl⟩ : ∃ l, l = m.sts[p.1] := ⟨_, rfl⟩
  have hle := hm.lens _ (List.getElem_mem hx)
  have hrng := hm.rng _ (List.getElem_mem hx)
  rw [← hl] at hle hrng
  have hrow : m.row p.1 = l := by rw [Sy.row_eq hx, hl]
  have g1 : (m.sts.map pairsA)[p.1]? = some (.imm 2 (pc l)) := by simp [hx, hl, pairsA]
  simp -implicitDefEqProofs only [go_sem, dlt_true hjl, not_false_eq_true, hget_skip, hset_skip, List.append_assoc, rowsH_names, hnf, hng, hn3, hnO, hget_rowsE hI, hget_rows hI, hset_rowsE hI, hset_rows hI, outC_get, outC_length, mxR_get, mxR_length, mxR_set, mxR_set0, hne2, hne3, hneO, stC_div, hnX, hneX, hnY, hneY, eg, el, el2]
  refine newK_intro fun n13 hn13 => ?_
  try simp -implicitDefEqProofs only [hset, rowsH_names, frt] at hn13
  simp -implicitDefEqProofs only [go_sem, not_false_eq_true, hget_skip, hset_skip, List.append_assoc, rowsH_names, hnf, hng, hn3, hnO, hget_rowsE hI, hget_rows hI, hset_rowsE hI, hset_rows hI, outC_get, outC_length, mxR_get, mxR_length, mxR_set, mxR_set0, hne2, hne3, hneO, stC_div, hnX, hneX, hnY, hneY, hn13]
  refine opK_pure (goodY_ok m s hm hn p hp) rfl (Sub.of_eq (by first | rfl | simp -implicitDefEqProofs only [go_sem])) ?_
  cases hfit : okY m s p with
  | false =>
    have e := hbrk (lo + j) hkL (by rw [hLk]; exact hfit)
    simp -implicitDefEqProofs only [go_sem]
    refine fnPost_retLe tok ?_
    simp -implicitDefEqProofs only [go_sem, Tryz.results110, e]
    exact ⟨_, Le.tup (Les.cons (Le.junk _) (Les.cons (Le.junk _) (Les.cons (Le.refl _) Les.nil))), rfl⟩
  | true =>
  have hbk : okY m s L[lo + j].1 = true := by rw [hLk]; exact hfit
  have hacc : m.off p.1 ∈ s.acc p.2 := of_decide_eq_true hfit
  have hne13 : ∀ x, x < i → ¬ ns x = n13 := names_ne (by simp only [hn13, not_false_eq_true])
  simp -implicitDefEqProofs only [go_sem, not_false_eq_true, hget_skip, hset_skip, List.append_assoc, rowsH_names, hnf, hng, hn3, hnO, hget_rowsE hI, hget_rows hI, hset_rowsE hI, hset_rows hI, outC_get, outC_length, mxR_get, mxR_length, mxR_set, mxR_set0, hne2, hne3, hneO, stC_div, hnX, hneX, hnY, hneY, hn13, hne13, pc_div, hx, hxi, g1, List.length_map, Nat.div_one]
  refine AW.loopP tok (α := Nat × List It × Nat) (fun a => slots 136 [(2, .ptr n2 0), (3, .ptr n3 0), (7, .own nO vO), (10, iA d), (11, .own nY a.2.2), (13, .ptr n13 0), (49, .own nX vX), (50, iA (hi' - lo : Nat)), (51, iA j), (66, .imm 2 (pc l)), (67, iA l.length), (68, iA a.1)])
    (fun a => [(n2, .cells 45 [strsA m.acts, .imm 1 (m.sts.map pairsA)]), (n3, .cells 25 [strsA s.acts, .imm 2 (stC s.sts)]), (nO, .row 105 1 vO (outC i i ns vs)), (nX, .row 80 2 vX (qc (q.drop lo))), (nY, .row 80 2 a.2.2 (qc (a.2.1.drop hi'))), (n13, .cells 80 [.raw (.int .i64 p.1), .raw (.int .i64 p.2)])] ++ rowsH i 4 1 ns vs (mxR ng (seenF a.2.1)))
    (fun a => a.1 ≤ l.length ∧ a.2.1 = pushAll q' (lab (lo + j) ((l.take a.1).map (stY s p.2))))
    (fun a => l.length - a.1) (0, q', vY) ⟨Nat.zero_le _, rfl⟩ (by simp -implicitDefEqProofs only [go_sem, iA]) (by
      have := has_end [(n2, .cells 45 [strsA m.acts, .imm 1 (m.sts.map pairsA)]), (n3, .cells 25 [strsA s.acts, .imm 2 (stC s.sts)]), (nO, .row 105 1 vO (outC i i ns vs)), (nX, .row 80 2 vX (qc (q.drop lo))), (nY, .row 80 2 vY (qc (q'.drop hi')))] (rowsH i 4 1 ns vs (mxR ng (seenF q'))) [(n13, .cells 80 [.raw (.int .i64 p.1), .raw (.int .i64 p.2)])]
      simpa -implicitDefEqProofs only [List.cons_append, List.nil_append, List.append_assoc] using this) ?_
  rintro ⟨b, q2, v2⟩ ⟨hb0, hq2⟩
  simp only at hb0 hq2
  have hq2n : (q2.map (·.1)).Nodup := hq2 ▸ pushAll_nodup _ _ hq'
  have hpre2 : q' <+: q2 := hq2 ▸ pushAll_prefix _ _
  have hq2in : ∀ z ∈ q2, InP m.sts.length s.sts.length z.1 := fun z hz => by
    rw [hq2] at hz
    rcases pushAll_mem hz with hz | hz
    · exact hin' z hz
    · obtain ⟨w, hw, rfl⟩ := List.mem_map.1 hz
      obtain ⟨c, hc, rfl⟩ := List.mem_map.1 hw
      exact stY_in hm hn hp (by rw [hrow]; exact List.mem_of_mem_take hc)
  have hq2l := hlen q2 hq2n hq2in
  have hp2le := hpre2.length_le
  simp -implicitDefEqProofs only [go_sem, iA]
  by_cases hbl : b < l.length
  rotate_left
  · obtain rfl : b = l.length := by omega
    simp -implicitDefEqProofs only [go_sem, dlt_false hbl, wrap_up hjl (by omega)]
    have hfuel : N + 1 - (lo + j) = (N - (lo + j)) + 1 := by omega
    have hs0 : gS (suY m s) (lo + j) p = lab (lo + j) (l.map (stY s p.2)) := by unfold gS suY; rw [hrow]; rfl
    rw [List.take_length] at hq2
    rw [hfuel, bfs_step _ hk', hqk, hs0, ← hq2] at hbfs'
    have hfu2 : N + 1 - (lo + (j + 1)) = N - (lo + j) := by omega
    refine ⟨(j + 1, q2, v2), ⟨hjl, by simp only; rw [hfu2]; exact hbfs', hq2n, (by rw [← hnf, ← hng]; exact hq2in), hpre.trans hpre2, fun c hkL2 hk2 => ?_⟩, by simp only; omega, by simp -implicitDefEqProofs only [go_sem], ?_⟩
    · by_cases e : c = lo + j
      · subst e; exact hbk
      · exact hall' c hkL2 (by simp only at hk2; omega)
    · have := has_drop [(n2, .cells 45 [strsA m.acts, .imm 1 (m.sts.map pairsA)]), (n3, .cells 25 [strsA s.acts, .imm 2 (stC s.sts)]), (nO, .row 105 1 vO (outC i i ns vs)), (nX, .row 80 2 vX (qc (q.drop lo))), (nY, .row 80 2 v2 (qc (q2.drop hi')))] [(n13, .cells 80 [.raw (.int .i64 p.1), .raw (.int .i64 p.2)])] (rowsH i 4 1 ns vs (mxR ng (seenF q2)))
      simpa -implicitDefEqProofs only [List.cons_append, List.nil_append, List.append_assoc] using this
  have ge := pc_get l b hbl
  have e4 : b * 2 + 2 ≤ (pc l).length := by rw [pc_length]; omega
  have e6 : b * 2 < (pc l).length := by omega
  obtain ⟨r1, r2, r3, r4⟩ := hrng _ (List.getElem_mem hbl)
  have hst := stY_in hm hn hp (e := l[b]) (by rw [hrow]; exact List.getElem_mem hbl)
  have hbit : (m.off p.1).testBit l[b].1.toNat = true := edge_off (by rw [hrow]; exact List.getElem_mem hbl)
  obtain ⟨hak, hnx⟩ := hn.acc_nx hy hacc hbit
  obtain ⟨a, ha⟩ : ∃ a : Nat, l[b].1 = (a : Int) := ⟨l[b].1.toNat, by omega⟩
  have htake : (l.take (b + 1)).map (stY s p.2) = (l.take b).map (stY s p.2) ++ [stY s p.2 l[b]] := by
    rw [List.take_succ_eq_append_getElem hbl, List.map_append]; rfl
  obtain ⟨tq, htq⟩ : ∃ tq : Pr, tq = (stY s p.2 l[b]).1 := ⟨_, rfl⟩
  have hst2 : stY s p.2 l[b] = (tq, a) := by rw [htq]; unfold stY; rw [ha, Int.toNat_natCast]
  rw [← htq] at hst
  rw [hst2] at htake
  rw [ha, Int.toNat_natCast] at hak hnx
  have e8 : l[b].2 = (tq.1 : Int) := by rw [htq]; unfold stY; simp only; omega
  have e7 : s.nx p.2 a = (tq.2 : Int) := by rw [htq]; unfold stY; rw [ha]; simp only [Int.toNat_natCast]; omega
  have hi1 := hst.1
  have hi2 := hst.2
  rw [hnf] at hi1
  rw [hng] at hi2
  have hi3 : tq.1 + 1 ≤ i := hi1
  have hi4 : tq.2 + 1 ≤ ng := hi2
  rw [ha, e8] at ge
  have y2 := hn.nx_cell hy hak
  rw [e7] at y2
  have hrl2 : a < s.sts[p.2].2.length := by omega
  simp -implicitDefEqProofs only [go_sem, dlt_true hbl, not_false_eq_true, hget_skip, hset_skip, List.append_assoc, rowsH_names, hnf, hng, hn3, hnO, hget_rowsE hI, hget_rows hI, hset_rowsE hI, hset_rows hI, outC_get, outC_length, mxR_get, mxR_length, mxR_set, mxR_set0, hne2, hne3, hneO, stC_div, hnX, hneX, hnY, hneY, hn13, hne13, pc_div, hbl, ge, e4, e6, iA]
  refine newK_intro fun n15 hn15 => ?_
  try simp -implicitDefEqProofs only [hset, rowsH_names, frt] at hn15
  have hne15 : ∀ x, x < i → ¬ ns x = n15 := names_ne (by simp only [hn15, not_false_eq_true])
  simp -implicitDefEqProofs only [go_sem, not_false_eq_true, hget_skip, hset_skip, List.append_assoc, rowsH_names, hnf, hng, hn3, hnO, hget_rowsE hI, hget_rows hI, hset_rowsE hI, hset_rows hI, outC_get, outC_length, mxR_get, mxR_length, mxR_set, mxR_set0, hne2, hne3, hneO, stC_div, hnX, hneX, hnY, hneY, hn13, hne13, pc_div, hn15, hne15]
  refine AW.draw tok hmix ⟨[], [], [], false⟩ (by kernel_rfl) (Has.of_sub (List.nil_sublist _)) ?_
  simp -implicitDefEqProofs only [go_sem, not_false_eq_true, hget_skip, hset_skip, List.append_assoc, rowsH_names, hnf, hng, hn3, hnO, hget_rowsE hI, hget_rows hI, hset_rowsE hI, hset_rows hI, outC_get, outC_length, mxR_get, mxR_length, mxR_set, mxR_set0, hne2, hne3, hneO, stC_div, hnX, hneX, hnY, hneY, hn13, hne13, pc_div, hn15, hne15, hy, hyi, g4, g5, g6, f2, intsA, hrl2, hry, hak, y2, iA]
  refine newK_intro fun n16 hn16 => ?_
  try simp -implicitDefEqProofs only [hset, rowsH_names, frt] at hn16
  simp -implicitDefEqProofs only [go_sem, not_false_eq_true, hget_skip, hset_skip, List.append_assoc, rowsH_names, hnf, hng, hn3, hnO, hget_rowsE hI, hget_rows hI, hset_rowsE hI, hset_rows hI, outC_get, outC_length, mxR_get, mxR_length, mxR_set, mxR_set0, hne2, hne3, hneO, stC_div, hnX, hneX, hnY, hneY, hn13, hne13, pc_div, hn15, hne15, hn16]
  refine AW.draw tok hmix ⟨[], [], [], false⟩ (by kernel_rfl) (Has.of_sub (List.nil_sublist _)) ?_
  simp -implicitDefEqProofs only [go_sem, not_false_eq_true, hget_skip, hset_skip, List.append_assoc, rowsH_names, hnf, hng, hn3, hnO, hget_rowsE hI, hget_rows hI, hset_rowsE hI, hset_rows hI, outC_get, outC_length, mxR_get, mxR_length, mxR_set, mxR_set0, hne2, hne3, hneO, stC_div, hnX, hneX, hnY, hneY, hn13, hne13, pc_div, hn15, hne15, hn16, hi1, hi2, hi3, hi4, seenF]
  have hnext : ∀ (Q : List It) (v : Nat) (o o' : AObj), Has ([(n2, .cells 45 [strsA m.acts, .imm 1 (m.sts.map pairsA)]), (n3, .cells 25 [strsA s.acts, .imm 2 (stC s.sts)]), (nO, .row 105 1 vO (outC i i ns vs)), (nX, .row 80 2 vX (qc (q.drop lo))), (nY, .row 80 2 v (qc (Q.drop hi'))), (n13, .cells 80 [.raw (.int .i64 p.1), .raw (.int .i64 p.2)])] ++ rowsH i 4 1 ns vs (mxR ng (seenF Q))) ([(n2, .cells 45 [strsA m.acts, .imm 1 (m.sts.map pairsA)]), (n3, .cells 25 [strsA s.acts, .imm 2 (stC s.sts)]), (nO, .row 105 1 vO (outC i i ns vs)), (nX, .row 80 2 vX (qc (q.drop lo))), (nY, .row 80 2 v (qc (Q.drop hi'))), (n13, .cells 80 [.raw (.int .i64 p.1), .raw (.int .i64 p.2)])] ++ (rowsH i 4 1 ns vs (mxR ng (seenF Q)) ++ [(n15, o), (n16, o')])) := fun Q v o o' =>
    has_left [(n2, .cells 45 [strsA m.acts, .imm 1 (m.sts.map pairsA)]), (n3, .cells 25 [strsA s.acts, .imm 2 (stC s.sts)]), (nO, .row 105 1 vO (outC i i ns vs)), (nX, .row 80 2 vX (qc (q.drop lo))), (nY, .row 80 2 v (qc (Q.drop hi'))), (n13, .cells 80 [.raw (.int .i64 p.1), .raw (.int .i64 p.2)])] (rowsH i 4 1 ns vs (mxR ng (seenF Q))) [(n15, o), (n16, o')]
  by_cases hs : tq ∈ q2.map (·.1)
  · have hs' : (tq.1, tq.2) ∈ q2.map (·.1) := hs
    simp -implicitDefEqProofs only [go_sem, hs', decide_true, wrap_up hbl (by omega)]
    refine ⟨(b + 1, q2, v2), ⟨hbl, ?_⟩, by simp only; omega, by simp -implicitDefEqProofs only [go_sem], ?_⟩
    · simp only; rw [htake, lab_snoc, pushAll_append, ← hq2, pushAll_cons, pushAll_nil, push_old hs]
    · have := hnext q2 v2 (.cells 101 [.raw (.int .i64 a), .raw (.int .i64 tq.1)]) (.cells 80 [.raw (.int .i64 tq.1), .raw (.int .i64 tq.2)])
      simpa -implicitDefEqProofs only [List.cons_append, List.nil_append, List.append_assoc, seenF] using this
  obtain ⟨x, hx0⟩ : ∃ x : It, x = (tq, (((lo + j : Nat) : Int), (a : Int))) := ⟨_, rfl⟩
  have hxs : x.1 ∉ q2.map (·.1) := by rw [hx0]; exact hs
  have hq3 : q2 ++ [x] = pushAll q' (lab (lo + j) ((l.take (b + 1)).map (stY s p.2))) := by
    rw [htake, lab_snoc, pushAll_append, ← hq2, pushAll_cons, pushAll_nil, ← hx0, push_new hxs]
  have hsf : upd2 (seenF q2) tq.1 tq.2 (.raw (.bool true)) = seenF (q2 ++ [x]) := by
    have := seenF_snoc q2 x
    rw [hx0] at this ⊢; exact this
  have hqc : qc (q2.drop hi') ++ [.raw (.int .i64 tq.1), .raw (.int .i64 tq.2)] = qc ((q2 ++ [x]).drop hi') := by
    have := qc_snoc (q2.drop hi') x
    rw [List.drop_append_of_le_length (by omega), ← this, hx0]; rfl
  have hs' : ¬ (tq.1, tq.2) ∈ q2.map (·.1) := hs
  simp -implicitDefEqProofs only [go_sem, hs', decide_false]
  refine AW.draw tok hmix ⟨[], [], [], false⟩ (by kernel_rfl) (Has.of_sub (List.nil_sublist _)) ?_
  simp -implicitDefEqProofs only [go_sem, not_false_eq_true, hget_skip, hset_skip, List.append_assoc, rowsH_names, hnf, hng, hn3, hnO, hget_rowsE hI, hget_rows hI, hset_rowsE hI, hset_rows hI, outC_get, outC_length, mxR_get, mxR_length, mxR_set, mxR_set0, hne2, hne3, hneO, stC_div, hnX, hneX, hnY, hneY, hn13, hne13, pc_div, hn15, hne15, hn16, hi1, hi2, hi3, hi4, hsf]
  refine opK_lit tok T40 rfl T80 (by decide) (by simp -implicitDefEqProofs only [go_sem, zrep, List.flatten_cons, List.flatten_nil]; rfl) ?_
  simp -implicitDefEqProofs only [go_sem, not_false_eq_true, hget_skip, hset_skip, List.append_assoc, rowsH_names, hnf, hng, hn3, hnO, hget_rowsE hI, hget_rows hI, hset_rowsE hI, hset_rows hI, outC_get, outC_length, mxR_get, mxR_length, mxR_set, mxR_set0, hne2, hne3, hneO, stC_div, hnX, hneX, hnY, hneY, hn13, hne13, pc_div, hn15, hne15, hn16]
  refine opK_append tok rfl rfl (by simp -implicitDefEqProofs only [go_sem, not_false_eq_true, hget_skip, hset_skip, List.append_assoc, rowsH_names, hnf, hng, hn3, hnO, hget_rowsE hI, hget_rows hI, hset_rowsE hI, hset_rows hI, outC_get, outC_length, mxR_get, mxR_length, mxR_set, mxR_set0, hne2, hne3, hneO, stC_div, hnX, hneX, hnY, hneY, hn13, hne13, pc_div, hn15, hne15, hn16]; rfl) rfl T40 rfl T80 rfl (by decide) (by simp only [qc_div, List.length_drop, List.length_cons, List.length_nil]; omega) fun v3 => ?_
  simp -implicitDefEqProofs only [go_sem, not_false_eq_true, hget_skip, hset_skip, List.append_assoc, rowsH_names, hnf, hng, hn3, hnO, hget_rowsE hI, hget_rows hI, hset_rowsE hI, hset_rows hI, outC_get, outC_length, mxR_get, mxR_length, mxR_set, mxR_set0, hne2, hne3, hneO, stC_div, hnX, hneX, hnY, hneY, hn13, hne13, pc_div, hn15, hne15, hn16, hqc, wrap_up hbl (by omega)]
  refine ⟨(b + 1, q2 ++ [x], v3), ⟨hbl, hq3⟩, by simp only; omega, by simp -implicitDefEqProofs only [go_sem], ?_⟩
  have := hnext (q2 ++ [x]) v3 (.cells 101 [.raw (.int .i64 a), .raw (.int .i64 tq.1)]) (.cells 80 [.raw (.int .i64 tq.1), .raw (.int .i64 tq.2)])
  simpa -implicitDefEqProofs only [List.cons_append, List.nil_append, List.append_assoc] using this
open Go Go.NS
theorem SatR_ok (m : Sy) (s : Sp) {k : Nat} (hm : m.Val k) (hs : s.Val k) : Fp Tryz.prog 66 [m.av, s.av] (abool (satB m s)) := by
  refine Fp.of_vc tok Tryz.func66 rfl (by decide) ?_
  simp -implicitDefEqProofs only [go_sem, Tryz.ntmps66, Sy.av, Sy.cells, Sp.av, Sp.cells]
  refine newK_intro fun n2 hn2 => ?_
  try simp -implicitDefEqProofs only [hset, frt] at hn2
  simp -implicitDefEqProofs only [go_sem]
  refine newK_intro fun n3 hn3 => ?_
  try simp -implicitDefEqProofs only [hset, frt] at hn3
  simp -implicitDefEqProofs only [go_sem, hn3]
  refine opK_pure (ReachY_ok m s hm hs) rfl (Sub.of_eq (by first | rfl | simp -implicitDefEqProofs only [go_sem])) ?_
  simp -implicitDefEqProofs only [go_sem]
  refine fnPost_ret tok ?_
  simp -implicitDefEqProofs only [go_sem, Tryz.results66]
def madeB (m : Sy) (s : Sp) : Bool := m.validB && (decide (m.acts = s.acts) && satB m s)
theorem Made_ok (m : Sy) (s : Sp) {k : Nat} (hm : m.Small) (hs : s.Val k) : Fp Tryz.prog 65 [m.av, s.av] (abool (madeB m s)) := by
  refine Fp.of_vc tok Tryz.func65 rfl (by decide) ?_
  simp -implicitDefEqProofs only [go_sem, Tryz.ntmps65, Sy.av, Sy.cells, Sp.av, Sp.cells]
  refine newK_intro fun n2 hn2 => ?_
  try simp -implicitDefEqProofs only [hset, frt] at hn2
  simp -implicitDefEqProofs only [go_sem]
  refine newK_intro fun n3 hn3 => ?_
  try simp -implicitDefEqProofs only [hset, frt] at hn3
  simp -implicitDefEqProofs only [go_sem, hn3]
  refine opK_pure (IsSy_ok m hm) rfl (Sub.of_eq (by first | rfl | simp -implicitDefEqProofs only [go_sem])) ?_
  cases hv : m.validB with
  | false =>
    simp -implicitDefEqProofs only [go_sem, hn3]
    refine fnPost_ret tok ?_
    simp -implicitDefEqProofs only [go_sem, Tryz.results65, madeB, hv, Bool.false_and]
  | true =>
  simp -implicitDefEqProofs only [go_sem, hn3]
  refine opK_pure (SameStrings_ok m.acts s.acts hm.a hs.small.a) rfl (Sub.of_eq (by first | rfl | simp -implicitDefEqProofs only [go_sem])) ?_
  by_cases e : m.acts = s.acts
  rotate_left
  · simp -implicitDefEqProofs only [go_sem, e, decide_false, hn3]
    refine fnPost_ret tok ?_
    simp -implicitDefEqProofs only [go_sem, Tryz.results65, madeB, hv, e, decide_false, Bool.false_and, Bool.and_false]
  have hV : m.Val k := by
    have := Sy.validB_val hv
    rwa [show m.acts.length = k by rw [e]; exact hs.len] at this
  simp -implicitDefEqProofs only [go_sem, e, decide_true, hn3]
  refine opK_pure (SatR_ok m s hV hs) rfl (Sub.of_eq (by first | rfl | simp -implicitDefEqProofs only [go_sem, Sy.av, Sy.cells, Sp.av, Sp.cells, e])) ?_
  simp -implicitDefEqProofs only [go_sem]
  refine fnPost_ret tok ?_
  simp -implicitDefEqProofs only [go_sem, Tryz.results65, madeB, hv, e, decide_true, Bool.true_and]
structure Vd where
  holds : Bool
  lad : List Int
  pairs : List (Int × Int)
  wit : Sy
def Vd.cells (v : Vd) : List AV := [abool v.holds, intsA v.lad, pairsA v.pairs, strsA v.wit.acts, .imm 1 (v.wit.sts.map pairsA)]
def Vd.av (v : Vd) : AV := .agg v.cells
structure Vd.Small (v : Vd) : Prop where
  l : v.lad.length * 8 ≤ 140737488351232
  p : v.pairs.length * 16 ≤ 140737488351232
  w : v.wit.Small
def Vd.zero : Vd := ⟨false, [], [], ⟨[], []⟩⟩
def Sy.noneB (m : Sy) : Bool := decide (m.acts.length = 0) && decide (m.sts.length = 0)
def rightV (s t : Sp) (k : Nat) (v : Vd) : Bool :=
  if v.holds then v.wit.noneB && proofB s t k v.lad v.pairs
  else decide (v.lad.length + v.pairs.length = 0) && (madeB v.wit s && !satB v.wit t)
set_option maxHeartbeats 1000000 in
theorem right5_ok (s t : Sp) {k : Nat} (hs : s.Val k) (ht : t.Val k) (v : Vd) (hv : v.Small) : Fp Tryz.prog 30 [s.av, t.av, v.av] (abool (rightV s t k v)) := by
  have hl := hv.l
  have hp := hv.p
  refine Fp.of_vc tok Tryz.func30 rfl (by decide) ?_
  simp -implicitDefEqProofs only [go_sem, Tryz.ntmps30, Sp.av, Sp.cells, Vd.av, Vd.cells]
  refine newK_intro fun n3 hn3 => ?_
  try simp -implicitDefEqProofs only [hset, frt] at hn3
  simp -implicitDefEqProofs only [go_sem]
  refine newK_intro fun n4 hn4 => ?_
  try simp -implicitDefEqProofs only [hset, frt] at hn4
  simp -implicitDefEqProofs only [go_sem, hn4]
  refine newK_intro fun n5 hn5 => ?_
  try simp -implicitDefEqProofs only [hset, frt] at hn5
  simp -implicitDefEqProofs only [go_sem, hn4, hn5, not_false_eq_true]
  cases h : v.holds with
  | true =>
    simp -implicitDefEqProofs only [go_sem, hn4, hn5, not_false_eq_true]
    refine opK_pure (NoneSy_ok v.wit) rfl (Sub.of_eq (by first | rfl | simp -implicitDefEqProofs only [go_sem, Sy.av, Sy.cells])) ?_
    cases h1 : v.wit.noneB with
    | false =>
      have h1' : (decide (v.wit.acts.length = 0) && decide (v.wit.sts.length = 0)) = false := h1
      simp -implicitDefEqProofs only [go_sem, h1', hn4, hn5, not_false_eq_true]
      refine fnPost_ret tok ?_
      simp -implicitDefEqProofs only [go_sem, Tryz.results30, rightV, h, if_true, h1, Bool.false_and]
    | true =>
      have h1' : (decide (v.wit.acts.length = 0) && decide (v.wit.sts.length = 0)) = true := h1
      simp -implicitDefEqProofs only [go_sem, h1', hn4, hn5, not_false_eq_true]
      refine opK_pure (IsProofR_ok s t hs ht v.lad hl v.pairs hp) rfl (Sub.of_eq (by first | rfl | simp -implicitDefEqProofs only [go_sem])) ?_
      simp -implicitDefEqProofs only [go_sem]
      refine fnPost_ret tok ?_
      simp -implicitDefEqProofs only [go_sem, Tryz.results30, rightV, h, if_true, h1, Bool.true_and]
  | false =>
    have hw : IntKind.i64.wrap ((v.lad.length : Int) + (v.pairs.length : Int)) = ((v.lad.length + v.pairs.length : Nat) : Int) := by rw [← Int.natCast_add]; exact wrap_nat (by omega)
    have d : decide (((v.lad.length + v.pairs.length : Nat) : Int) = 0) = decide (v.lad.length + v.pairs.length = 0) := decide_eq_decide.2 (by omega)
    simp -implicitDefEqProofs only [go_sem, hn4, hn5, not_false_eq_true, intsA, pairsA, List.length_map, Nat.div_one, pc_div, hw, d]
    by_cases c : v.lad.length + v.pairs.length = 0
    rotate_left
    · simp -implicitDefEqProofs only [go_sem, c, decide_false, hn4, hn5, not_false_eq_true]
      refine fnPost_ret tok ?_
      simp -implicitDefEqProofs only [go_sem, Tryz.results30, rightV, h, c, decide_false, Bool.false_and, Bool.false_eq_true, if_false]
    simp -implicitDefEqProofs only [go_sem, c, decide_true, hn4, hn5, not_false_eq_true]
    refine opK_pure (Made_ok v.wit s hv.w hs) rfl (Sub.of_eq (by first | rfl | simp -implicitDefEqProofs only [go_sem, Sy.av, Sy.cells])) ?_
    cases hm : madeB v.wit s with
    | false =>
      simp -implicitDefEqProofs only [go_sem, hn4, hn5, not_false_eq_true]
      refine fnPost_ret tok ?_
      simp -implicitDefEqProofs only [go_sem, Tryz.results30, rightV, h, c, decide_true, hm, Bool.false_and, Bool.and_false, Bool.false_eq_true, if_false]
    | true =>
    have hV : v.wit.Val k := by
      have hm := hm
      unfold madeB at hm
      rw [Bool.and_eq_true, Bool.and_eq_true] at hm
      have := Sy.validB_val hm.1
      rwa [show v.wit.acts.length = k by rw [of_decide_eq_true hm.2.1]; exact hs.len] at this
    simp -implicitDefEqProofs only [go_sem, hn4, hn5, not_false_eq_true]
    refine opK_pure (SatR_ok v.wit t hV ht) rfl (Sub.of_eq (by first | rfl | simp -implicitDefEqProofs only [go_sem, Sy.av, Sy.cells])) ?_
    simp -implicitDefEqProofs only [go_sem]
    refine fnPost_ret tok ?_
    simp -implicitDefEqProofs only [go_sem, Tryz.results30, rightV, h, c, decide_true, hm, Bool.true_and, Bool.false_eq_true, if_false]
theorem wit_small {T : Sp} {k : Nat} {want : List Pr} (hV : T.Val k) (h : (witS T k want).validB = true) : (witS T k want).Small := by
  have h1 := Sy.validB_val h
  have h2 := h1.few
  have h3 := h1.k8
  exact ⟨by omega, by omega, fun x hx => by have := h1.lens x hx; omega⟩
theorem ladder_len {s : Sp} {l : List Nat} (h : Ladder s l) : l.length ≤ s.sts.length := by
  have := nodup_le l (List.range s.sts.length) h.1 fun x hx => List.mem_range.2 (h.2.1 x hx)
  rwa [List.length_range] at this
theorem refV_yes {s t : Sp} (C : CmpS s t s.acts.length) (hr : refB s t s.acts.length = true) {out : List Nat} (hL : Ladder s out) (hW : Whole s out) :
    (Vd.mk true (natsI out) (if leftN s s.acts.length = [] then [] else pairsD s t s.acts.length) ⟨[], []⟩).Small ∧ rightV s t s.acts.length (Vd.mk true (natsI out) (if leftN s s.acts.length = [] then [] else pairsD s t s.acts.length) ⟨[], []⟩) = true := by
  have hV := trimS_valid C.m
  have hol := ladder_len hL
  have hfew := C.m.few
  have hrl := relD_len hV C.n
  have hpl : (if leftN s s.acts.length = [] then [] else pairsD s t s.acts.length).length ≤ 250000 := by
    split
    · simp
    · rw [pairsD, List.length_map]; exact hrl
  refine ⟨⟨?_, ?_, ?_⟩, ?_⟩
  · show (natsI out).length * 8 ≤ 140737488351232
    rw [natsI_length]; omega
  · show (if leftN s s.acts.length = [] then [] else pairsD s t s.acts.length).length * 16 ≤ 140737488351232
    omega
  · exact ⟨by simp, by simp, fun x hx => by cases hx⟩
  · unfold rightV
    rw [if_pos rfl]
    show (Sy.noneB ⟨[], []⟩ && proofB s t s.acts.length (natsI out) (if leftN s s.acts.length = [] then [] else pairsD s t s.acts.length)) = true
    rw [judge_proof C.m C.n hr hL hW]
    rfl
theorem refV_no {s t : Sp} (C : CmpS s t s.acts.length) (h0 : leftN s s.acts.length ≠ []) {v : Nat} {w : List Nat} {q : Pr} (h1 : Path (suD (trimS s s.acts.length) t s.acts.length) (0, 0) w q) (h2 : v ∈ (trimS s s.acts.length).acc q.1) (h3 : v ∉ t.acc q.2) :
    (Vd.mk false [] [] (witS (trimS s s.acts.length) s.acts.length (wayP (trimS s s.acts.length) v 0 w))).Small ∧ rightV s t s.acts.length (Vd.mk false [] [] (witS (trimS s s.acts.length) s.acts.length (wayP (trimS s s.acts.length) v 0 w))) = true := by
  have hV := trimS_valid C.m
  obtain ⟨hrun, he, _⟩ := path_runT hV C.n (trimS_tight C.m) h1 rfl
  have hne := trim_ne C.m h0
  have hwant : WantOk (trimS s s.acts.length) (wayP (trimS s s.acts.length) v 0 w) := wayP_ok hV hV.pos hrun (by rw [he]; exact h2)
  have hval := wit_valid hV hne hwant hrun
  refine ⟨⟨by simp, by simp, wit_small hV hval⟩, ?_⟩
  have h5 := wit_sat C.m h0 hwant hval (first_way hV.pos).2
  have h6 := wit_not hV C.n (trimS_tight C.m) hne hwant hval h1 h3
  have h7 : (witS (trimS s s.acts.length) s.acts.length (wayP (trimS s s.acts.length) v 0 w)).acts = s.acts := trim_acts s _
  unfold rightV madeB
  rw [if_neg (by simp)]
  show (decide ((0 : Nat) = 0) && _) = true
  simp only [hval, h5, h6, h7, decide_true, Bool.true_and, Bool.not_false]
theorem zero_small : Vd.zero.Small := ⟨by simp [Vd.zero], by simp [Vd.zero], ⟨by simp [Vd.zero], by simp [Vd.zero], fun x hx => by cases hx⟩⟩
end Go.Proofs.YtfininfcljdkbaaGreat
